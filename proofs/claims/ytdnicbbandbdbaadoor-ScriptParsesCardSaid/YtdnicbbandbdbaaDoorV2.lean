/- Rules: a slice that began as a constant's bytes grows. No condition. -/
import Derived.Test.YtdnicbbandbdbaaDoorV1
namespace Go.PB
open Go.RowKit Go.Lib
section
variable {P : Program} {ops : Array Oper} {Q : Exit → Act → World → Prop} {M : List Nat} {w0 : World} {n : Nat} {D : List Deferred} {L : List (Nat × Value)} {H : List Ent} {rest : List Oper}
  {d : Tmp} {oty t t' : TypeId} {pos : String} {after : Array Edge} {g : Option (Nat × Bool)} {x y : Operand}
abbrev Og := Nat × Nat × Array Value
/-- its row, with its mark -/
abbrev ogH (e : TypeId) (fr : Nat × Nat) (o : Og) : List Ent := [⟨o.1, true, .cells o.2.2 e fr⟩]
abbrev ogV (n : Nat) (o : Og) : Value := .slice (some ⟨o.1, 0, none⟩) n o.2.1
theorem wl_appendStrG {e : TypeId} {m : Nat} {o : Og} {fr : Nat × Nat} {xs : List Value} {l : List UInt8} {H' : Og → List Ent} (hg : gdv ops L g = some true) (hd : Nat.blt d n = true)
    (ht : Sl P t e) (hu : P.underlying t' = some .string) (hs : Sz P e 1) (hby : By P e 1) (hz : Zero P e [.int .u8 0])
    (hx : evo L x = some (ogV m o)) (hy : evo L y = some (.string ⟨l.toArray⟩)) (hok : ownOk m 1 xs (some o)) (hfr : fr = (0, 0) ∨ o.2.1 = m) (hk : 0 < l.length)
    (h63 : m + l.length ≤ maxLen) (hb : m + l.length ≤ 140737488355328) (hT : TailUp H (ogH e fr o) (ogH e (0, 0)) H')
    (h : ∀ o' : Og, ownOk (m + l.length) 1 (xs ++ bytV l) (some o') → Wl P ops Q M w0 n D rest ((d, ogV (m + l.length) o') :: L) (H' o')) :
    Wl P ops Q M w0 n D (⟨some d, .call { callee := .builtin .append, args := #[x, y], argTypes := #[t, t'] }, oty, pos, after, g⟩ :: rest) L H := by
  obtain ⟨A, hA, hA'⟩ := hT
  by_cases hf0 : fr = (0, 0)
  · subst hf0
    refine wl_appendStr (m := m) (o := some o) (xs := xs) (l := l) (H' := fun o' => A ++ ownH e o') hg hd ht hu hs hby hz hx hy hok hk h63 hb ⟨A, hA, fun _ => rfl⟩ fun o' ho => ?_
    cases o' with
    | none => obtain ⟨h0, _⟩ := ho; omega
    | some o' =>
      have := h o' ho
      rw [hA'] at this
      exact this
  have hcap := hfr.resolve_left hf0
  unfold Wl
  intro a w hf hst
  unfold wpList
  rw [if_pos (by rw [wanted_of hf hg])]
  refine .inl ?_
  unfold Oper.wp
  have ht' : P.underlying t = some (.slice e) := ht
  obtain ⟨i, hi, hsz⟩ := Option.map_eq_some_iff.1 hs
  obtain ⟨i2, hi2, hbz⟩ := Option.map_eq_some_iff.1 hby
  obtain ⟨i3, zv, hi3, hzv, hzc⟩ := hz
  rw [hi] at hi2 hi3
  cases hi2
  cases hi3
  have hsmall : m + l.length ≤ 9223372036854775807 := by simp only [maxLen] at h63; omega
  have hss : (⟨l.toArray⟩ : ByteArray).size = l.length := bytes_size l
  have hzs : zv.cells.size = 1 := by rw [hzc]; rfl
  have hl : (bytV l).length = l.length := by simp [bytV]
  obtain ⟨b, cap, cur⟩ := o
  obtain ⟨k1, k2, k3, k4, k5⟩ := hok
  simp only [Nat.mul_one] at k1 k2 k3 k4 k5 hcap
  have hmem : (⟨b, true, .cells cur e fr⟩ : Ent) ∈ H := by rw [hA]; simp [ogH]
  have hbg := hst.get hmem
  have hex : (execOp a.eval ⟨some d, .call { callee := .builtin .append, args := #[x, y], argTypes := #[t, t'] }, oty, pos, after, g⟩).run P w =
      ((Builtin.append_ #[t, t'] oty #[.slice (some ⟨b, 0, none⟩) m cap, .string ⟨l.toArray⟩]).run P w).andThen fun v w' => .ok (.value v) w' := by
    simp [execOp, resolve, invoke, builtin, hf.eval hx, hf.eval hy]
  have holds : ∀ j u, xs[j]? = some u → w.cell? ((⟨b, 0, none⟩ : Addr).add j) = some u := fun j u hj => by
    rw [add_lit, Nat.zero_add, cell_cells hbg]
    rw [← k4, List.getElem?_take] at hj
    split at hj
    · simpa using hj
    · cases hj
  have hr := run_append_grow_string (P := P) w t t' oty e i zv ht' hu hi hzv ⟨b, 0, none⟩ m cap xs (by rw [hsz, Nat.mul_one]; exact k5) holds ⟨l.toArray⟩ (by rw [hss]; omega) (by rw [hss]; omega) (by rw [hss]; exact growslice_fits (by omega) (by rw [hbz, Nat.mul_one]; exact hb))
  rw [hss, strCells_bytV] at hr
  rw [hex, hr]
  have hge := grownCap_ge w (m + l.length) cap e
  have hok' : ownOk (m + l.length) 1 (xs ++ bytV l) (some (w.heap.size, grownCap w (m + l.length) cap e, xs.toArray ++ (bytV l).toArray ++ Builtin.zeroCells zv.cells (grownCap w (m + l.length) cap e - (m + l.length)))) := by
    refine ⟨hge, grownCap_le_maxLen w (m + l.length) cap e h63, ?_, ?_, ?_⟩
    · simp only [Array.size_append, List.size_toArray, size_zeroCells, hzs, k5, hl]
      omega
    · have hlen : (xs ++ bytV l).length = (m + l.length) * 1 := by rw [List.length_append, k5, hl, Nat.mul_one]
      simp only [Array.toList_append, List.append_assoc]
      rw [← List.append_assoc, ← hlen]
      exact List.take_left
    · rw [List.length_append, k5, hl, Nat.mul_one]
  have := h _ hok'
  unfold Wl at this
  refine this _ _ (hf.put (dst := some d) (by simpa using hd)) ?_
  rw [hA']
  have hst' : St M w0 w A := hst.sub (by rw [hA]; exact List.sublist_append_left _ _)
  exact (hst'.drew.alloc _).perm (List.perm_append_singleton _ _).symm
theorem wl_append_ownG {e et : TypeId} {sz bytes m k c gb off : Nat} {o : Og} {fr : Nat × Nat} {xs news z : List Value} {arr : Array Value} {fr' : Nat × Nat} {wr : Bool} {H' : Og → List Ent} (hg : gdv ops L g = some true) (hd : Nat.blt d n = true)
    (ht : Sl P t e) (hs : Sz P e sz) (hby : By P e bytes) (hz : Zero P e z) (hzl : z.length = sz)
    (hx : evo L x = some (ogV m o)) (hy : evo L y = some (.slice (some ⟨gb, off, none⟩) k c)) (hok : ownOk m sz xs (some o)) (hfr : fr = (0, 0) ∨ o.2.1 = m)
    (hm : (⟨gb, wr, .cells arr et fr'⟩ : Ent) ∈ H) (hl : news.length = k * sz) (hc : ∀ (j : Nat) v, news[j]? = some v → arr[off + j]? = some v) (h1 : ∀ u ∈ news, u.oneCell' = true) (hk : 0 < k)
    (h63 : m + k ≤ maxLen) (hb : (m + k) * bytes ≤ 140737488355328) (hT : TailUp H (ogH e fr o) (ogH e (0, 0)) H')
    (h : ∀ o' : Og, ownOk (m + k) sz (xs ++ news) (some o') → Wl P ops Q M w0 n D rest ((d, ogV (m + k) o') :: L) (H' o')) :
    Wl P ops Q M w0 n D (⟨some d, .call { callee := .builtin .append, args := #[x, y], argTypes := #[t, t] }, oty, pos, after, g⟩ :: rest) L H := by
  obtain ⟨A, hA, hA'⟩ := hT
  by_cases hf0 : fr = (0, 0)
  · subst hf0
    refine wl_append_own (m := m) (k := k) (o := some o) (xs := xs) (news := news) (H' := fun o' => A ++ ownH e o') hg hd ht hs hby hz hzl hx hy hok hm hl hc h1 hk h63 hb ⟨A, hA, fun _ => rfl⟩ fun o' ho => ?_
    cases o' with
    | none => obtain ⟨h0, _⟩ := ho; omega
    | some o' =>
      have := h o' ho
      rw [hA'] at this
      exact this
  have hcap := hfr.resolve_left hf0
  unfold Wl
  intro a w hf hst
  unfold wpList
  rw [if_pos (by rw [wanted_of hf hg])]
  refine .inl ?_
  unfold Oper.wp
  have ht' : P.underlying t = some (.slice e) := ht
  obtain ⟨i, hi, hsz⟩ := Option.map_eq_some_iff.1 hs
  obtain ⟨i2, hi2, hbz⟩ := Option.map_eq_some_iff.1 hby
  obtain ⟨i3, zv, hi3, hzv, hzc⟩ := hz
  rw [hi] at hi2 hi3
  cases hi2
  cases hi3
  subst hsz hbz
  have hsmall : m + k ≤ 9223372036854775807 := by simp only [maxLen] at h63; omega
  have hzs : zv.cells.size = i.size := by rw [hzc]; simpa using hzl
  obtain ⟨b, cap, cur⟩ := o
  obtain ⟨k1, k2, k3, k4, k5⟩ := hok
  simp only at k1 k2 k3 k4 k5 hcap
  have hmem : (⟨b, true, .cells cur e fr⟩ : Ent) ∈ H := by rw [hA]; simp [ogH]
  have hbg := hst.get hmem
  have hnews : ∀ j u, news[j]? = some u → w.cell? ((⟨gb, off, none⟩ : Addr).add j) = some u := fun j v hj => by rw [add_lit, cell_cells (hst.get hm)]; exact hc j v hj
  have hex : (execOp a.eval ⟨some d, .call { callee := .builtin .append, args := #[x, y], argTypes := #[t, t] }, oty, pos, after, g⟩).run P w =
      ((Builtin.append_ #[t, t] oty #[.slice (some ⟨b, 0, none⟩) m cap, .slice (some ⟨gb, off, none⟩) k c]).run P w).andThen fun v w' => .ok (.value v) w' := by
    simp [execOp, resolve, invoke, builtin, hf.eval hx, hf.eval hy]
  have holds : ∀ j u, xs[j]? = some u → w.cell? ((⟨b, 0, none⟩ : Addr).add j) = some u := fun j u hj => by
    rw [add_lit, Nat.zero_add, cell_cells hbg]
    rw [← k4, List.getElem?_take] at hj
    split at hj
    · simpa using hj
    · cases hj
  have hr := run_append_grow (P := P) w t oty e i zv ht' hi hzv ⟨b, 0, none⟩ m cap xs k5 holds ⟨gb, off, none⟩ k c news hl hnews (by omega) (by omega) (growslice_fits (by omega) hb)
  rw [hex, hr]
  have hge := grownCap_ge w (m + k) cap e
  have hok' : ownOk (m + k) i.size (xs ++ news) (some (w.heap.size, grownCap w (m + k) cap e, xs.toArray ++ news.toArray ++ Builtin.zeroCells zv.cells (grownCap w (m + k) cap e - (m + k)))) := by
    refine ⟨hge, grownCap_le_maxLen w (m + k) cap e h63, ?_, ?_, ?_⟩
    · simp only [Array.size_append, List.size_toArray, size_zeroCells, hzs, k5, hl, ← Nat.add_mul]
      congr 1
      omega
    · have hlen : (xs ++ news).length = (m + k) * i.size := by rw [List.length_append, k5, hl, Nat.add_mul]
      simp only [Array.toList_append, List.append_assoc]
      rw [← List.append_assoc, ← hlen]
      exact List.take_left
    · rw [List.length_append, k5, hl, Nat.add_mul]
  have := h _ hok'
  unfold Wl at this
  refine this _ _ (hf.put (dst := some d) (by simpa using hd)) ?_
  rw [hA']
  have hst' : St M w0 w A := hst.sub (by rw [hA]; exact List.sublist_append_left _ _)
  exact (hst'.drew.alloc _).perm (List.perm_append_singleton _ _).symm
end
end Go.PB
