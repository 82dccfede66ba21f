/- Slices of bytes that grow by texts, slices made: rules of the walk. No condition. -/
import Derived.Test.YtdnicbbandbdbaaDoorEO
import Derived.Lib.AppendStr
import Derived.Laws.MakeOwn
namespace Go.PB
open Go.RowKit Go.Lib
section
variable {P : Program} {ops : Array Oper} {Q : Exit → Act → World → Prop} {M : List Nat} {w0 : World} {n : Nat} {D : List Deferred} {L : List (Nat × Value)} {H : List Ent} {rest : List Oper}
  {d : Tmp} {oty t t' : TypeId} {pos : String} {after : Array Edge} {g : Option (Nat × Bool)} {x y : Operand}
theorem strCells_bytV (l : List UInt8) : strCells ⟨l.toArray⟩ = bytV l := by simp [strCells, bytV]
theorem wl_appendStr {e : TypeId} {m : Nat} {o : Ow} {xs : List Value} {l : List UInt8} {H' : Ow → List Ent} (hg : gdv ops L g = some true) (hd : Nat.blt d n = true)
    (ht : Sl P t e) (hu : P.underlying t' = some .string) (hs : Sz P e 1) (hby : By P e 1) (hz : Zero P e [.int .u8 0])
    (hx : evo L x = some (ownV m o)) (hy : evo L y = some (.string ⟨l.toArray⟩)) (hok : ownOk m 1 xs o) (hk : 0 < l.length)
    (h63 : m + l.length ≤ maxLen) (hb : m + l.length ≤ 140737488355328) (hT : TailUp H (ownH e o) (ownH e) H')
    (h : ∀ o', ownOk (m + l.length) 1 (xs ++ bytV l) o' → Wl P ops Q M w0 n D rest ((d, ownV (m + l.length) o') :: L) (H' o')) :
    Wl P ops Q M w0 n D (⟨some d, .call { callee := .builtin .append, args := #[x, y], argTypes := #[t, t'] }, oty, pos, after, g⟩ :: rest) L H := by
  unfold Wl
  intro a w hf hst
  unfold wpList
  rw [if_pos (by rw [wanted_of hf hg])]
  refine .inl ?_
  unfold Oper.wp
  have ht' : P.underlying t = some (.slice e) := ht
  obtain ⟨i, hi, hsz⟩ := Option.map_eq_some_iff.1 hs
  obtain ⟨i2, hi2, hbz⟩ := Option.map_eq_some_iff.1 hby
  obtain ⟨i3, zv, hi3, hzv, hzc⟩ := hz
  rw [hi] at hi2 hi3
  cases hi2
  cases hi3
  have hsmall : m + l.length ≤ 9223372036854775807 := by simp only [maxLen] at h63; omega
  have hss : (⟨l.toArray⟩ : ByteArray).size = l.length := bytes_size l
  have hzs : zv.cells.size = 1 := by rw [hzc]; rfl
  have hl : (bytV l).length = l.length := by simp [bytV]
  have h1 : ∀ u ∈ bytV l, u.oneCell' = true := by
    intro u hu
    obtain ⟨b, _, rfl⟩ := List.mem_map.1 hu
    rfl
  have hex : ∀ v, a.eval x = v → (execOp a.eval ⟨some d, .call { callee := .builtin .append, args := #[x, y], argTypes := #[t, t'] }, oty, pos, after, g⟩).run P w =
      ((Builtin.append_ #[t, t'] oty #[v, .string ⟨l.toArray⟩]).run P w).andThen fun v w' => .ok (.value v) w' := fun v hv => by
    simp [execOp, resolve, invoke, builtin, hv, hf.eval hy]
  obtain ⟨A, hA, hA'⟩ := hT
  have fin : ∀ o' w', ownOk (m + l.length) 1 (xs ++ bytV l) o' → St M w0 w' (A ++ ownH e o') → wpList P ops Q rest (a.put (some d) (ownV (m + l.length) o')) w' := fun o' w' ho hs' => by
    have := h o' ho
    unfold Wl at this
    exact this _ _ (hf.put (dst := some d) (by simpa using hd)) (by rw [hA']; exact hs')
  have grown : ∀ (old : Nat), xs.length = m → old < m + l.length → ownOk (m + l.length) 1 (xs ++ bytV l) (some (w.heap.size, grownCap w (m + l.length) old e, xs.toArray ++ (bytV l).toArray ++ Builtin.zeroCells zv.cells (grownCap w (m + l.length) old e - (m + l.length)))) := fun old hxl _ => by
    have hge := grownCap_ge w (m + l.length) old e
    refine ⟨hge, grownCap_le_maxLen w (m + l.length) old e h63, ?_, ?_, ?_⟩
    · simp only [Array.size_append, List.size_toArray, size_zeroCells, hzs, hxl, hl]
      omega
    · have hlen : (xs ++ bytV l).length = (m + l.length) * 1 := by rw [List.length_append, hxl, hl, Nat.mul_one]
      simp only [Array.toList_append, List.append_assoc]
      rw [← List.append_assoc, ← hlen]
      exact List.take_left
    · rw [List.length_append, hxl, hl, Nat.mul_one]
  cases o with
  | none =>
    obtain ⟨rfl, rfl⟩ := hok
    rw [hex _ (hf.eval hx)]
    have hr := run_append_nil_string (P := P) w t t' oty e i zv ht' hu hi hzv ⟨l.toArray⟩ (by rw [hss]; exact hk) (by rw [hss]; omega) (by rw [hss, hbz]; omega)
    rw [hss] at hr
    have hgr := grown 0 rfl (by omega)
    rw [Nat.zero_add] at hgr
    have hst' : St M w0 w A := by rw [hA] at hst; simpa [ownH] using hst
    have hda : (⟨l.toArray⟩ : ByteArray).data.map (fun b => Value.int .u8 b.toNat) = (bytV l).toArray := by
      apply Array.ext'
      simp [bytV]
    rw [hda] at hr
    have := fin (some (w.heap.size, grownCap w l.length 0 e, (bytV l).toArray ++ Builtin.zeroCells zv.cells (grownCap w l.length 0 e - l.length))) _ (by rw [Nat.zero_add]; simpa using hgr) ((hst'.drew.alloc _).perm (List.perm_append_singleton _ _).symm)
    show Oper.upon _ _ _ _ _ (Result.andThen ((Builtin.append_ #[t, t'] oty #[.slice none 0 0, .string ⟨l.toArray⟩]).run P w) _)
    rw [hr]
    rw [Nat.zero_add] at this
    exact this
  | some o =>
    obtain ⟨b, cap, cur⟩ := o
    obtain ⟨k1, k2, k3, k4, k5⟩ := hok
    simp only [Nat.mul_one] at k1 k2 k3 k4 k5
    have hmem : (⟨b, true, .cells cur e (0, 0)⟩ : Ent) ∈ H := by rw [hA]; simp [ownH]
    have hbg := hst.get hmem
    rw [hex _ (hf.eval hx)]
    by_cases hroom : m + l.length ≤ cap
    · have hr := run_append_room_string (P := P) w t t' oty e i ht' hu hi hsz b m cap cur hbg ⟨l.toArray⟩ (by rw [hss]; exact hroom) (by rw [hss, k3]; exact hroom)
      rw [hss, strCells_bytV] at hr
      show Oper.upon _ _ _ _ _ (Result.andThen ((Builtin.append_ #[t, t'] oty #[.slice (some ⟨b, 0, none⟩) m cap, .string ⟨l.toArray⟩]).run P w) _)
      rw [hr]
      refine fin (some (b, cap, (cur.toList.take m ++ bytV l ++ cur.toList.drop (m + l.length)).toArray)) _ ⟨hroom, k2, ?_, ?_, ?_⟩ ?_
      · simp only [List.size_toArray, List.length_append, List.length_take, List.length_drop, Array.length_toList, hl]
        omega
      · have hlen : (xs ++ bytV l).length = (m + l.length) * 1 := by rw [List.length_append, k5, hl, Nat.mul_one]
        simp only
        rw [k4, ← hlen]
        exact List.take_left
      · rw [List.length_append, k5, hl, Nat.mul_one]
      · refine hst.upd ⟨A, [], ?_, ?_⟩ (b := b) (o := .cells cur e (0, 0)) (o' := .cells (cur.toList.take m ++ bytV l ++ cur.toList.drop (m + l.length)).toArray e (0, 0)) ?_ ?_
        · rw [hA]; rfl
        · rfl
        · exact ⟨rfl, rfl, rfl, by simp, fun j _ hj => setRow_other w b j _ (fun e => hj (by rw [e]))⟩
        · exact setRow_heap w b cur _ e _ hbg
    · have holds : ∀ j u, xs[j]? = some u → w.cell? ((⟨b, 0, none⟩ : Addr).add j) = some u := fun j u hj => by
        rw [add_lit, Nat.zero_add, cell_cells hbg]
        rw [← k4, List.getElem?_take] at hj
        split at hj
        · simpa using hj
        · cases hj
      have hr := run_append_grow_string (P := P) w t t' oty e i zv ht' hu hi hzv ⟨b, 0, none⟩ m cap xs (by rw [hsz, Nat.mul_one]; exact k5) holds ⟨l.toArray⟩ (by rw [hss]; omega) (by rw [hss]; omega) (by rw [hss]; exact growslice_fits (by omega) (by rw [hbz, Nat.mul_one]; exact hb))
      rw [hss, strCells_bytV] at hr
      show Oper.upon _ _ _ _ _ (Result.andThen ((Builtin.append_ #[t, t'] oty #[.slice (some ⟨b, 0, none⟩) m cap, .string ⟨l.toArray⟩]).run P w) _)
      rw [hr]
      refine fin (some (w.heap.size, grownCap w (m + l.length) cap e, xs.toArray ++ (bytV l).toArray ++ Builtin.zeroCells zv.cells (grownCap w (m + l.length) cap e - (m + l.length)))) _ (grown cap k5 (by omega)) ?_
      have hst' : St M w0 w A := hst.sub (by rw [hA]; exact List.sublist_append_left _ _)
      exact (hst'.drew.alloc _).perm (List.perm_append_singleton _ _).symm
/-- a slice made: its cells are nought -/
theorem wl_makeSlice {e : TypeId} {sz bytes m c : Nat} {z : List Value} (hg : gdv ops L g = some true) (hd : Nat.blt d n = true) (ht : Sl P t e) (hs : Sz P e sz) (hby : By P e bytes) (hz : Zero P e z)
    (hx : evo L x = some (.int .i64 (m : Nat))) (hy : evo L y = some (.int .i64 (c : Nat))) (hmc : m ≤ c) (hcells : c * sz ≤ 16777216) (hb : bytes * c ≤ 281474976710656) (hc63' : c ≤ 9223372036854775807)
    (h : ∀ b, Wl P ops Q M w0 n D rest ((d, .slice (some ⟨b, 0, none⟩) m c) :: L) (⟨b, true, .cells (madeCells z.toArray (c * sz)) e (0, 0)⟩ :: H)) :
    Wl P ops Q M w0 n D (⟨some d, .makeSlice t x y, oty, pos, after, g⟩ :: rest) L H := by
  unfold Wl at h ⊢
  intro a w hf hst
  unfold wpList
  rw [if_pos (by rw [wanted_of hf hg])]
  refine .inl ?_
  unfold Oper.wp
  have ht' : P.underlying t = some (.slice e) := ht
  obtain ⟨i, hi, hsz⟩ := Option.map_eq_some_iff.1 hs
  obtain ⟨i2, hi2, hbz⟩ := Option.map_eq_some_iff.1 hby
  obtain ⟨i3, zv, hi3, hzv, hzc⟩ := hz
  rw [hi] at hi2 hi3
  cases hi2
  cases hi3
  subst hsz hbz
  have hbc : (i.bytes : Int) * (c : Int) ≤ 281474976710656 := by
    have h : ((i.bytes * c : Nat) : Int) ≤ 281474976710656 := by omega
    rwa [Int.natCast_mul] at h
  have hc63 : (c : Int) ≤ 9223372036854775807 := by omega
  have hr := run_makeSlice (P := P) w t e i zv ht' hi hzv .i64 .i64 m c (by omega) (by omega) (by simpa using hcells) hbc hc63
  have hex : (execOp a.eval ⟨some d, .makeSlice t x y, oty, pos, after, g⟩).run P w = ((Instr.makeSlice t (.int .i64 m) (.int .i64 c)).run P w).andThen fun v w' => .ok (.value v) w' := by
    simp [execOp, hf.eval hx, hf.eval hy]
  rw [hex, hr, hzc]
  exact h _ _ _ (hf.put (dst := some d) (by simpa using hd)) (hst.alloc _)
end
end Go.PB
