/- Rules of the walk for ranges over maps and functions that the model carries. No condition. -/
import Derived.Test.YtoicghljdndpeaaEng
import Derived.Maps.RangeRun
import Derived.Lib.Bytealg
/-! ranges over maps; functions that the model carries -/
attribute [local semireducible] Go.PB.Ev Go.PB.Wl Go.PB.W Go.PB.Wq
namespace Go.PB
open Go.RowKit
section
variable {P : Program} {ops : Array Oper} {Q : Exit → Act → World → Prop} {M : List Nat} {w0 : World} {n : Nat} {D : List Deferred} {L L' : List (Nat × Value)} {H H' : List Ent} {rest : List Oper}
  {d : Tmp} {dst : Option Tmp} {oty t t' : TypeId} {pos : String} {after : Array Edge} {g : Option (Nat × Bool)} {x y z : Operand}
theorem take_succ_all {α : Type} {p : α → Prop} {l : List α} {k : Nat} (hk : k < l.length) (h : ∀ t ∈ l.take k, p t) (h1 : p l[k]) : ∀ t ∈ l.take (k + 1), p t := fun t ht => by
  rw [List.take_succ_eq_append_getElem hk] at ht
  rcases List.mem_append.1 ht with ht | ht
  · exact h t ht
  · rw [List.mem_singleton.1 ht]; exact h1
/-- how many entries are still to come -/
def tleft : Tab → List Nat → Nat
  | [], _ => 0
  | p :: l, seen => (if p.2.2 ∈ seen then 0 else 1) + tleft l seen
theorem tleft_le (seen : List Nat) (k : Nat) : ∀ l : Tab, tleft l (seen ++ [k]) ≤ tleft l seen
  | [] => Nat.le_refl _
  | p :: l => by
    have := tleft_le seen k l
    simp only [tleft, List.mem_append, List.mem_singleton]
    by_cases h : p.2.2 ∈ seen
    · simp [h]; omega
    · by_cases h' : p.2.2 = k
      · simp [h, h']; omega
      · simp [h, h']; omega
theorem tleft_lt {seen : List Nat} {p : List UInt8 × Value × Nat} (hs : p.2.2 ∉ seen) : ∀ {l : Tab}, p ∈ l → tleft l (seen ++ [p.2.2]) < tleft l seen
  | q :: l, h => by
    have hle := tleft_le seen p.2.2 l
    simp only [tleft, List.mem_append, List.mem_singleton]
    rcases List.mem_cons.1 h with e | h
    · subst e
      simp [hs]; omega
    · have := tleft_lt hs h
      by_cases h1 : q.2.2 ∈ seen
      · simp [h1]; omega
      · by_cases h2 : q.2.2 = p.2.2
        · simp [h1, h2]; omega
        · simp [h1, h2]; omega
theorem tab_uniq {p q : List UInt8 × Value × Nat} : ∀ {l : Tab}, (l.map (·.2.2)).Nodup → p ∈ l → q ∈ l → p.2.2 = q.2.2 → p = q
  | r :: l, hn, hp, hq, e => by
    simp only [List.map_cons, List.nodup_cons] at hn
    rcases List.mem_cons.1 hp with e1 | hp
    · rcases List.mem_cons.1 hq with e2 | hq
      · rw [e1, e2]
      · exact absurd (List.mem_map.2 ⟨q, hq, by rw [← e, e1]⟩) hn.1
    · rcases List.mem_cons.1 hq with e2 | hq
      · exact absurd (List.mem_map.2 ⟨p, hp, by rw [e, e2]⟩) hn.1
      · exact tab_uniq hn.2 hp hq e
def iobj (m c : Nat) (seen : List Nat) : Obj := .mapIter (some m) c seen.toArray c
theorem wl_rangeMap {m c : Nat} {wr : Bool} {tab : Tab} {kt e : TypeId} (hg : gdv ops L g = some true) (hd : Nat.blt d n = true) (ht : Mp P t kt e) (hx : evo L x = some (.map (some m))) (hm : (⟨m, wr, mobj tab c⟩ : Ent) ∈ H)
    (h : ∀ b, Wl P ops Q M w0 n D rest ((d, .pointer (some ⟨b, 0, none⟩)) :: L) (⟨b, true, iobj m c []⟩ :: H)) : Wl P ops Q M w0 n D (⟨some d, .range t x, oty, pos, after, g⟩ :: rest) L H :=
  wl_new (o := iobj m c []) (v := fun b => .pointer (some ⟨b, 0, none⟩)) hg hd (fun a w hf hs => by
    have hb := hs.get hm
    simp [execOp, hf.eval hx, Instr.range, run_underlying ht.1, getObj, newObj, Sem.run, hb, mobj, iobj]) h
def ment (p : List UInt8 × Value × Nat) : MapEntry := { key := .string ⟨p.1.toArray⟩, val := p.2.1, born := p.2.2 }
theorem wl_nextMap {r m c : Nat} {wr : Bool} {tab : Tab} {seen : List Nat} {H' : List Nat → List Ent} (hg : gdv ops L g = some true) (hd : Nat.blt d n = true) (hx : evo L x = some (.pointer (some ⟨r, 0, none⟩))) (hm : (⟨m, wr, mobj tab c⟩ : Ent) ∈ H)
    (hb : ∀ p ∈ tab, p.2.2 < c) (hu : ∀ s, Upd H r (iobj m c seen) (iobj m c s) (H' s))
    (h1 : ∀ p ∈ tab, p.2.2 ∉ seen → Wl P ops Q M w0 n D rest ((d, .tuple #[.bool true, .string ⟨p.1.toArray⟩, p.2.1]) :: L) (H' (seen ++ [p.2.2])))
    (h2 : (∀ p ∈ tab, p.2.2 ∈ seen) → Wl P ops Q M w0 n D rest ((d, .tuple #[.bool false]) :: L) H) : Wl P ops Q M w0 n D (⟨some d, .next x false, oty, pos, after, g⟩ :: rest) L H := by
  intro a w hf hs
  have hr0 := hs.get (hu seen).mem
  have hm0 := hs.get hm
  unfold wpList
  rw [if_pos (by rw [wanted_of hf hg])]
  refine .inl ?_
  unfold Oper.wp
  have hex : (execOp a.eval ⟨some d, .next x false, oty, pos, after, g⟩).run P w = ((Instr.next (.pointer (some ⟨r, 0, none⟩)) false oty).run P w).andThen fun v w' => .ok (.value v) w' := by
    simp [execOp, hf.eval hx]
  rw [hex]
  have hn := run_next_at (P := P) w oty r m c c seen.toArray (tab.map ment).toArray c hr0 hm0 (fun e he => by
    simp only [List.mem_map] at he
    obtain ⟨p, hp, rfl⟩ := he
    exact hb p hp) (Nat.le_refl _)
  rcases hn with ⟨h0, hrun⟩ | ⟨e, he, w1, hw1, hrun⟩
  · rw [hrun]
    refine h2 (fun p hp => ?_) _ _ (hf.put (dst := some d) (by simpa using hd)) hs
    have hnil : leftOf (tab.map ment).toArray seen.toArray = #[] := Array.eq_empty_of_size_eq_zero h0
    unfold leftOf at hnil
    rw [Array.filter_eq_empty_iff] at hnil
    have := hnil (ment p) (by simp only [List.mem_toArray]; exact List.mem_map.2 ⟨p, hp, rfl⟩)
    simpa [ment] using this
  · rw [hrun]
    have he' : ∃ p ∈ tab, p.2.2 ∉ seen ∧ ment p = e := by
      unfold leftOf at he
      simp only [Array.mem_toList_iff, Array.mem_filter, List.mem_toArray] at he
      obtain ⟨p, hp, hpe⟩ := List.mem_map.1 he.1
      refine ⟨p, hp, ?_, hpe⟩
      have := he.2
      rw [← hpe] at this
      simpa [ment] using this
    obtain ⟨p, hp, hps, rfl⟩ := he'
    have hst : St M w0 w1 H := by
      rcases hw1 with rfl | rfl
      · exact hs
      · exact hs.drew
    have hlt := lt_of_get (hst.get (hu seen).mem)
    have hpush : seen.toArray.push (ment p).born = (seen ++ [p.2.2]).toArray := by simp [ment]
    have hne : ∀ k, k ≠ r → (ChangeMaps.setBlock w1 r (iobj m c (seen ++ [p.2.2]))).heap[k]? = w1.heap[k]? := fun k hk => by
      simp [ChangeMaps.setBlock, Array.getElem?_setIfInBounds_ne (Ne.symm hk)]
    rw [hpush]
    exact h1 p hp hps _ _ (hf.put (dst := some d) (by simpa using hd)) (hst.upd (hu _) (w' := ChangeMaps.setBlock w1 r (iobj m c (seen ++ [p.2.2]))) ⟨rfl, rfl, rfl, by simp [ChangeMaps.setBlock], fun k _ hk => hne k (fun e => hk (by rw [e]))⟩ (by simp [ChangeMaps.setBlock, hlt]))
theorem ev_entry {r m c : Nat} {wr wr' : Bool} {tab : Tab} {seen : List Nat} {p : List UInt8 × Value × Nat} (hx : evo L x = some (.pointer (some ⟨r, 0, none⟩))) (hm : (⟨m, wr, mobj tab c⟩ : Ent) ∈ H)
    (hr : (⟨r, wr', iobj m c (seen ++ [p.2.2])⟩ : Ent) ∈ H) (hp : p ∈ tab) (hn : (tab.map (·.2.2)).Nodup) : Ev P M w0 n D L H (.entry x) oty (.tuple #[.string ⟨p.1.toArray⟩, p.2.1]) := fun a w hf hs dst pos after g => by
  have hr0 := hs.get hr
  have hm0 := hs.get hm
  have hpush : (seen ++ [p.2.2]).toArray = seen.toArray.push (ment p).born := by simp [ment]
  unfold iobj at hr0
  rw [hpush] at hr0
  have := run_entry_at (P := P) w r m c seen.toArray (tab.map ment).toArray c (ment p) hr0 hm0 (by simp; exact ⟨_, _, _, hp, rfl⟩) (by
    simp only [List.map_map]
    exact hn)
  simp only [execOp, hf.eval hx]
  simp [this, ment]
/-- a function that the model carries, of a string and a byte -/
def IxB (P : Program) (f : FuncId) : Prop := ∃ fn, P.funcs[f]? = some fn ∧ (fn.name == "runtime.NumGoroutine") = false ∧ fn.body.isNone = true ∧ Extern.findNext fn = none ∧ Extern.find fn = some Extern.BytealgIndexByte.indexByte
theorem ev_indexByte {f : FuncId} {l : List UInt8} {c : Int} {ats : Array TypeId} (hf' : IxB P f) (hx : evo L x = some (.string ⟨l.toArray⟩)) (hy : evo L y = some (.int .u8 c)) :
    Ev P M w0 n D L H (.call { callee := .value (.func f), args := #[x, y], argTypes := ats }) oty (.int .i64 (Lib.indexByte l c.toNat.toUInt8)) := fun a w hf _ dst pos after g => by
  obtain ⟨fn, h1, h2, h3, h4, h5⟩ := hf'
  have hr := run_callFunc_extern (P := P) h1 h2 h3 h4 h5 #[.string ⟨l.toArray⟩, .int .u8 c] w
  rw [Lib.run_indexByteString] at hr
  simp only [execOp, resolve, Act.eval, Deferred.ofValue]
  have e1 := hf.eval hx
  have e2 := hf.eval hy
  simp [invoke, e1, e2, hr]
/-- .. that counts a byte -/
def CtB (P : Program) (f : FuncId) : Prop := ∃ fn, P.funcs[f]? = some fn ∧ (fn.name == "runtime.NumGoroutine") = false ∧ fn.body.isNone = true ∧ Extern.findNext fn = none ∧ Extern.find fn = some Extern.BytealgCount.count
theorem ev_countByte {f : FuncId} {l : List UInt8} {c : Int} {ats : Array TypeId} (hf' : CtB P f) (hx : evo L x = some (.string ⟨l.toArray⟩)) (hy : evo L y = some (.int .u8 c)) :
    Ev P M w0 n D L H (.call { callee := .value (.func f), args := #[x, y], argTypes := ats }) oty (.int .i64 (Lib.countByte l c.toNat.toUInt8)) := fun a w hf _ dst pos after g => by
  obtain ⟨fn, h1, h2, h3, h4, h5⟩ := hf'
  have hr := run_callFunc_extern (P := P) h1 h2 h3 h4 h5 #[.string ⟨l.toArray⟩, .int .u8 c] w
  rw [Lib.run_countString] at hr
  simp only [execOp, resolve, Act.eval, Deferred.ofValue]
  have e1 := hf.eval hx
  have e2 := hf.eval hy
  simp [invoke, e1, e2, hr]
/-! slices of slices -/
theorem ev_slice_h {e : TypeId} {sz b off m c : Nat} {hi : Operand} {k : IntKind} {j : Int} (ht : Sl P t e) (hs : Sz P e sz) (hx : evo L x = some (.slice (some ⟨b, off, none⟩) m c)) (hhi : evo L hi = some (.int k j)) (hb : 0 ≤ j ∧ j ≤ c) :
    Ev P M w0 n D L H (.slice t x none (some hi) none) oty (.slice (some ⟨b, off, none⟩) j.toNat c) := fun a w hf _ dst pos after g => by
  have ht' : P.underlying t = some (.slice e) := ht
  simp [execOp, hf.eval hx, hf.eval hhi, Instr.sliceAt, Instr.slice, Instr.sliceBounds, Instr.sliceBound, asIntOf, run_underlying ht', hb.1, hb.2, run_sizeOf hs, add_lit]
theorem ev_slice_l {e : TypeId} {sz b off m c : Nat} {lo : Operand} {k : IntKind} {i : Int} (ht : Sl P t e) (hs : Sz P e sz) (hx : evo L x = some (.slice (some ⟨b, off, none⟩) m c)) (hlo : evo L lo = some (.int k i)) (hb : 0 ≤ i ∧ i ≤ m) (hc : i < c) :
    Ev P M w0 n D L H (.slice t x (some lo) none none) oty (.slice (some ⟨b, off + i.toNat * sz, none⟩) (m - i.toNat) (c - i.toNat)) := fun a w hf _ dst pos after g => by
  have ht' : P.underlying t = some (.slice e) := ht
  have hne : ¬ c = i.toNat := by omega
  simp [execOp, hf.eval hx, hf.eval hlo, Instr.sliceAt, Instr.slice, Instr.sliceBounds, Instr.sliceBound, asIntOf, run_underlying ht', hb.1, hb.2, run_sizeOf hs, add_lit, hne]
theorem ev_slice_lh {e : TypeId} {sz b off m c : Nat} {lo hi : Operand} {k k' : IntKind} {i j : Int} (ht : Sl P t e) (hs : Sz P e sz) (hx : evo L x = some (.slice (some ⟨b, off, none⟩) m c)) (hlo : evo L lo = some (.int k i)) (hhi : evo L hi = some (.int k' j))
    (hb : 0 ≤ i ∧ i ≤ j ∧ j ≤ c) (hc : i < c) : Ev P M w0 n D L H (.slice t x (some lo) (some hi) none) oty (.slice (some ⟨b, off + i.toNat * sz, none⟩) (j.toNat - i.toNat) (c - i.toNat)) := fun a w hf _ dst pos after g => by
  have ht' : P.underlying t = some (.slice e) := ht
  have hne : ¬ c = i.toNat := by omega
  have h0 : 0 ≤ j := by omega
  have h1 : i ≤ (j.toNat : Int) := by omega
  simp [execOp, hf.eval hx, hf.eval hlo, hf.eval hhi, Instr.sliceAt, Instr.slice, Instr.sliceBounds, Instr.sliceBound, asIntOf, run_underlying ht', hb.1, hb.2.2, h0, h1, run_sizeOf hs, add_lit, hne]
  intro hh; omega

theorem Wl.subH {l : List Oper} (hH : SubH H' H) (h : Wl P ops Q M w0 n D l L H') : Wl P ops Q M w0 n D l L H := fun a w hf hs => h a w hf (hs.sub hH)
theorem Wl.sub {l : List Oper} (hL : SubL L' L) (hH : SubH H' H) (h : Wl P ops Q M w0 n D l L' H') : Wl P ops Q M w0 n D l L H := fun a w hf hs => h a w (hf.sub hL) (hs.sub hH)
end
/-! a piece of code that finds out one truth -/
theorem SubL.refl {L : List (Nat × Value)} : SubL L L := fun _ _ h => h
theorem SubL.fresh {L L' : List (Nat × Value)} {j : Nat} {v : Value} (h : look L j = none) (hs : SubL L L') : SubL L ((j, v) :: L') := by
  intro i u hi
  simp only [look]
  by_cases e : i = j
  · subst e; rw [h] at hi; cases hi
  · rw [beq_ne e]; exact hs i u hi
section
variable {P : Program} {Z : Exit → Act → World → Prop} {M : List Nat} {w0 : World} {n : Nat} {D : List Deferred} {L L' : List (Nat × Value)} {H H' : List Ent} {k : List Kt}
def fb (L : List (Nat × Value)) (H : List Ent) (M : List Nat) (w0 : World) (n : Nat) (D : List Deferred) (slot : Nat) (p : Prop) [Decidable p] : Act → World → Prop :=
  fun a w => ∃ x : Bool, x = decide p ∧ Fz n ((slot, .bool x) :: L) D a ∧ St M w0 w H
theorem W.joinB {c : Code} (slot : Nat) (p : Prop) [Decidable p] (h1 : W P Z M w0 n D (.inl c :: .inr (.inr (fb L H M w0 n D slot p)) :: k) L H)
    (h2 : W P Z M w0 n D k ((slot, .bool (decide p)) :: L) H) : W P Z M w0 n D (.inl c :: k) L H := by
  intro a w hf hs
  show c.wp P (kpost P Z k) a w
  refine Code.wp_mono (fun e a2 w2 hq => ?_) (h1 a w hf hs)
  cases e with
  | normal =>
    obtain ⟨x, rfl, x2, x3⟩ := hq
    exact h2 a2 w2 x2 x3
  | exit id => exact hq
  | goto l => exact hq
  | ret => exact hq
  | panic ch => exact hq
  | outgrown => exact hq
theorem W.meetB {slot : Nat} {p : Prop} [Decidable p] {L0 : List (Nat × Value)} {H0 : List Ent} {b : Bool} (hv : look L slot = some (.bool b)) (hp : b = decide p) (hL : SubL L0 L) (hH : SubH H0 H) : W P Z M w0 n D (.inr (.inr (fb L0 H0 M w0 n D slot p)) :: k) L H :=
  fun _ _ hf hs => ⟨b, hp, hf.sub (SubL.cons hv hL), hs.sub hH⟩
end
end Go.PB
