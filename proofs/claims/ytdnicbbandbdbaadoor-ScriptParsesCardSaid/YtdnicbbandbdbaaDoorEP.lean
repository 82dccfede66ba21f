/- A store into a row of structs: a rule of the walk. No condition. -/
import Derived.Test.YtdnicbbandbdbaaDoorEO
namespace Go.PB
open Go.RowKit
section
variable {P : Program} {ops : Array Oper} {Q : Exit → Act → World → Prop} {M : List Nat} {w0 : World} {n : Nat} {D : List Deferred} {L : List (Nat × Value)} {H : List Ent} {rest : List Oper}
  {oty t : TypeId} {pos : String} {after : Array Edge} {g : Option (Nat × Bool)} {x y : Operand}
/-- a struct laid into a row of structs: the row's other cells are not followed -/
theorem wl_storeAny {e : TypeId} {b off : Nat} {lv : List Value} {c : Array Value} {H' : Array Value → List Ent} (hg : gdv ops L g = some true) (hx : evo L x = some (.pointer (some ⟨b, off, none⟩))) (hy : evo L y = some (.agg lv.toArray)) (hs : Sz P t lv.length)
    (hm : ∀ c', Upd H b (.cells c e (0, 0)) (.cells c' e (0, 0)) (H' c')) (hfit : off + lv.length ≤ c.size) (h1 : ∀ v ∈ lv, v.oneCell' = true)
    (h : ∀ c', c'.size = c.size → Wl P ops Q M w0 n D rest L (H' c')) : Wl P ops Q M w0 n D (⟨none, .store t x y, oty, pos, after, g⟩ :: rest) L H := by
  have hex : ∀ a w, Fz n L D a → St M w0 w H → (execOp a.eval ⟨none, .store t x y, oty, pos, after, g⟩).run P w = .ok (.value undef) (w.setRow b (c.toList.take off ++ lv ++ c.toList.drop (off + lv.length)).toArray) ∨
      (execOp a.eval ⟨none, .store t x y, oty, pos, after, g⟩).run P w = .ok .skip (w.setRow b (c.toList.take off ++ lv ++ c.toList.drop (off + lv.length)).toArray) := by
    intro a w hf hst
    have hb := hst.get (hm c).mem
    have hr := run_storeCells_at P b off e lv 0 c w hb (by simpa using hfit) h1
    simp only [Nat.add_zero] at hr
    have hcells : (Value.agg lv.toArray).cells = lv.toArray := rfl
    have hsv : (storeVar t ⟨b, off, none⟩ (.agg lv.toArray)).run P w = .ok () (w.setRow b (c.toList.take off ++ lv ++ c.toList.drop (off + lv.length)).toArray) := by
      simp [storeVar, run_sizeOf hs, hcells, hr]
    simp [execOp, hf.eval hx, hf.eval hy, Instr.storeAt, Instr.sureAddr, hsv]
  unfold Wl at h ⊢
  intro a w hf hst
  unfold wpList
  rw [if_pos (by rw [wanted_of hf hg])]
  refine .inl ?_
  unfold Oper.wp
  have hb := hst.get (hm c).mem
  have hfin : St M w0 (w.setRow b (c.toList.take off ++ lv ++ c.toList.drop (off + lv.length)).toArray) (H' (c.toList.take off ++ lv ++ c.toList.drop (off + lv.length)).toArray) :=
    hst.upd (hm _) ⟨rfl, rfl, rfl, by simp, fun j _ hj => setRow_other w b j _ (fun e => hj (by rw [e]))⟩ (setRow_heap w b c _ e _ hb)
  have hsz : (c.toList.take off ++ lv ++ c.toList.drop (off + lv.length)).toArray.size = c.size := by
    simp only [List.size_toArray, List.length_append, List.length_take, List.length_drop, Array.length_toList]
    omega
  rcases hex a w hf hst with e' | e' <;> rw [e'] <;> exact h _ hsz _ _ hf hfin
end
end Go.PB
