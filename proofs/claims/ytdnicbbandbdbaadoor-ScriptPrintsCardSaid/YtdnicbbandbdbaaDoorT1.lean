/- Rules: a slice that began as a text's bytes grows by texts. No condition. -/
import Derived.Test.YtdnicbbandbdbaaDoorV4
import Derived.Deep.AppendSrc
namespace Go.PB
open Go.RowKit Go.Lib
def setA (arr : Array Value) : Nat → List Value → Array Value
  | _, [] => arr
  | o, v :: r => setA (arr.setIfInBounds o v) (o + 1) r
theorem setA_size : ∀ (vs : List Value) (o : Nat) (arr : Array Value), (setA arr o vs).size = arr.size
  | [], _, _ => rfl
  | v :: r, o, arr => by rw [setA, setA_size r]; simp
theorem take_set' {α : Type} (l : List α) (o : Nat) (v : α) (h : o < l.length) : (l.set o v).take (o + 1) = l.take o ++ [v] := by
  rw [List.take_succ_eq_append_getElem (by simpa using h), List.take_set_of_le (Nat.le_refl _), List.getElem_set_self]
theorem setA_take : ∀ (vs : List Value) (o : Nat) (arr : Array Value), o + vs.length ≤ arr.size → (setA arr o vs).toList.take (o + vs.length) = arr.toList.take o ++ vs
  | [], o, arr, _ => by simp [setA]
  | v :: r, o, arr, h => by
    simp only [List.length_cons] at h
    have := setA_take r (o + 1) (arr.setIfInBounds o v) (by simp; omega)
    rw [setA, List.length_cons, show o + (r.length + 1) = o + 1 + r.length by omega, this, Array.toList_setIfInBounds, take_set' _ _ _ (by simp; omega), List.append_assoc]
    rfl
theorem heap_setCells (b : Nat) : ∀ (vs : List Value) (o : Nat) (w : World) (arr : Array Value) (e : TypeId) (fr : Nat × Nat), w.heap[b]? = some (.cells arr e fr) → (w.setCells b o vs).heap[b]? = some (.cells (setA arr o vs) e fr)
  | [], _, _, _, _, _, h => h
  | v :: r, o, w, arr, e, fr, h => heap_setCells b r (o + 1) (w.setCell ⟨b, o, none⟩ v) (arr.setIfInBounds o v) e fr (by simp [World.setCell, Array.getElem?_modify, h])
theorem grown_setCells (b : Nat) : ∀ (vs : List Value) (o : Nat) (w : World), w.grownBy (w.setCells b o vs) (some b)
  | [], _, w => ⟨rfl, rfl, rfl, Nat.le_refl _, fun _ _ _ => rfl⟩
  | v :: r, o, w => by
    have h := grown_setCells b r (o + 1) (w.setCell ⟨b, o, none⟩ v)
    have hs : (w.setCell ⟨b, o, none⟩ v).heap.size = w.heap.size := by simp [World.setCell]
    refine ⟨h.os, h.tape, h.output, by have := h.size; rw [hs] at this; exact this, fun k hk hne => ?_⟩
    rw [World.setCells, h.block k (by rw [hs]; exact hk) hne]
    have : b ≠ k := fun e => hne (by rw [e])
    simp [World.setCell, Array.getElem?_modify, this]
theorem byteCells_bytV (l : List UInt8) : byteCells ⟨l.toArray⟩ = bytV l := by simp [byteCells, bytV]
section
variable {P : Program} {ops : Array Oper} {Q : Exit → Act → World → Prop} {M : List Nat} {w0 : World} {n : Nat} {D : List Deferred} {L : List (Nat × Value)} {H : List Ent} {rest : List Oper}
  {d : Tmp} {oty t t' : TypeId} {pos : String} {after : Array Edge} {g : Option (Nat × Bool)} {x y : Operand}
theorem wl_strBytesM {l : List UInt8} {e : TypeId} (hg : gdv ops L g = some true) (hd : Nat.blt d n = true) (hs : P.underlying t = some .string) (hdt : P.underlying t' = some (.slice e)) (he : P.underlying e = some (.int .u8)) (hx : evo L x = some (.string ⟨l.toArray⟩)) (h63 : l.length ≤ maxLen)
    (h : ∀ b cap, l.length ≤ cap → cap ≤ maxLen → Wl P ops Q M w0 n D rest ((d, .slice (some ⟨b, 0, none⟩) l.length cap) :: L) (⟨b, true, .cells (bytV l ++ List.replicate (cap - l.length) (Value.int .u8 0)).toArray e (cap, cap + 1)⟩ :: H)) :
    Wl P ops Q M w0 n D (⟨some d, .convert t t' x, oty, pos, after, g⟩ :: rest) L H := by
  unfold Wl
  intro a w hf hst
  unfold wpList
  rw [if_pos (by rw [wanted_of hf hg])]
  refine .inl ?_
  unfold Oper.wp
  have hr := run_bytes_of_string (P := P) w t t' e ⟨l.toArray⟩ hs hdt he
  have hsz : (⟨l.toArray⟩ : ByteArray).size = l.length := bytes_size l
  rw [hsz] at hr
  have hge := grownCap_ge w l.length 0 e
  have hle := grownCap_le_maxLen w l.length 0 e h63
  generalize grownCap w l.length 0 e = cap at hr hge hle
  have hrow : bytesRow ⟨l.toArray⟩ cap = (bytV l ++ List.replicate (cap - l.length) (Value.int .u8 0)).toArray := by
    apply Array.ext'
    simp [bytesRow, bytV, hsz]
  have hrs : (bytV l ++ List.replicate (cap - l.length) (Value.int .u8 0)).toArray.size = cap := by simp [bytV]; omega
  rw [hrow, hrs] at hr
  have hex : (execOp a.eval ⟨some d, .convert t t' x, oty, pos, after, g⟩).run P w = ((convert t t' (.string ⟨l.toArray⟩)).run P w).andThen fun v w' => .ok (.value v) w' := by
    simp [execOp, hf.eval hx]
  rw [hex, hr]
  have := h w.heap.size cap hge hle
  unfold Wl at this
  exact this _ _ (hf.put (dst := some d) (by simpa using hd)) (hst.drew.alloc _)
/-- own bytes as a text, whatever the mark -/
theorem ev_bytesOg {e et : TypeId} {m : Nat} {l : List UInt8} {o : Og} {fr : Nat × Nat}
    (hs : P.underlying t = some (.slice e)) (he : P.underlying e = some (.int .u8)) (hdt : P.underlying t' = some .string) (hx : evo L x = some (ogV m o)) (hok : ownOk m 1 (bytV l) (some o)) (hm : ∀ p ∈ ogH et fr o, p ∈ H) : Ev P M w0 n D L H (.convert t t' x) oty (.string ⟨l.toArray⟩) := by
  obtain ⟨b, cap, cur⟩ := o
  obtain ⟨q1, q2, q3, q4, q5⟩ := hok
  simp only [Nat.mul_one] at q1 q2 q3 q4 q5
  have hl : m = l.length := by rw [← q5]; simp [bytV]
  subst hl
  exact ev_bytesStr hs he hdt hx (hm _ (List.Mem.head _)) fun j hj => by
    have e : (bytV l)[j]? = some (.int .u8 l[j].toNat) := by simp [bytV, hj]
    rw [← q4, List.getElem?_take, if_pos hj] at e
    rw [Nat.zero_add]
    simpa using e
theorem wl_appendStrF {e : TypeId} {m : Nat} {o : Og} {fr : Nat × Nat} {xs : List Value} {l : List UInt8} {H' : Og × (Nat × Nat) → List Ent} (hg : gdv ops L g = some true) (hd : Nat.blt d n = true)
    (ht : Sl P t e) (hu : P.underlying t' = some .string) (hs : Sz P e 1) (hby : By P e 1) (hz : Zero P e [.int .u8 0])
    (hx : evo L x = some (ogV m o)) (hy : evo L y = some (.string ⟨l.toArray⟩)) (hok : ownOk m 1 xs (some o)) (hfr : fr = (0, 0) ∨ o.2.1 ≤ fr.1) (hk : 0 < l.length)
    (h63 : m + l.length ≤ maxLen) (hb : m + l.length ≤ 140737488355328) (hT : TailUp H (ogH e fr o) (fun q : Og × (Nat × Nat) => ogH e q.2 q.1) H')
    (h : ∀ q : Og × (Nat × Nat), ownOk (m + l.length) 1 (xs ++ bytV l) (some q.1) → (q.2 = (0, 0) ∨ q.1.2.1 ≤ q.2.1) → Wl P ops Q M w0 n D rest ((d, ogV (m + l.length) q.1) :: L) (H' q)) :
    Wl P ops Q M w0 n D (⟨some d, .call { callee := .builtin .append, args := #[x, y], argTypes := #[t, t'] }, oty, pos, after, g⟩ :: rest) L H := by
  obtain ⟨A, hA, hA'⟩ := hT
  by_cases hf0 : fr = (0, 0)
  · subst hf0
    refine wl_appendStr (m := m) (o := some o) (xs := xs) (l := l) (H' := fun o' => A ++ ownH e o') hg hd ht hu hs hby hz hx hy hok hk h63 hb ⟨A, hA, fun _ => rfl⟩ fun o' ho => ?_
    cases o' with
    | none => obtain ⟨h0, _⟩ := ho; omega
    | some o' =>
      have := h (o', (0, 0)) ho (.inl rfl)
      rw [hA'] at this
      exact this
  have hcap := hfr.resolve_left hf0
  by_cases hroom : ¬(m + l.length ≤ o.2.1)
  · by_cases hm : o.2.1 = m
    · refine wl_appendStrG (m := m) (o := o) (fr := fr) (xs := xs) (l := l) (H' := fun o' => A ++ ogH e (0, 0) o') hg hd ht hu hs hby hz hx hy hok (.inr hm) hk h63 hb ⟨A, hA, fun _ => rfl⟩ fun o' ho => ?_
      have := h (o', (0, 0)) ho (.inl rfl)
      rw [hA'] at this
      exact this
    unfold Wl
    intro a w hf hst
    unfold wpList
    rw [if_pos (by rw [wanted_of hf hg])]
    refine .inl ?_
    unfold Oper.wp
    have ht' : P.underlying t = some (.slice e) := ht
    obtain ⟨i, hi, hsz⟩ := Option.map_eq_some_iff.1 hs
    obtain ⟨i2, hi2, hbz⟩ := Option.map_eq_some_iff.1 hby
    obtain ⟨i3, zv, hi3, hzv, hzc⟩ := hz
    rw [hi] at hi2 hi3
    cases hi2
    cases hi3
    have hsmall : m + l.length ≤ 9223372036854775807 := by simp only [maxLen] at h63; omega
    have hss : (⟨l.toArray⟩ : ByteArray).size = l.length := bytes_size l
    have hzs : zv.cells.size = 1 := by rw [hzc]; rfl
    have hl : (bytV l).length = l.length := by simp [bytV]
    obtain ⟨b, cap, cur⟩ := o
    obtain ⟨k1, k2, k3, k4, k5⟩ := hok
    simp only [Nat.mul_one] at k1 k2 k3 k4 k5 hcap hroom
    have hmem : (⟨b, true, .cells cur e fr⟩ : Ent) ∈ H := by rw [hA]; simp [ogH]
    have hbg := hst.get hmem
    have hex : (execOp a.eval ⟨some d, .call { callee := .builtin .append, args := #[x, y], argTypes := #[t, t'] }, oty, pos, after, g⟩).run P w =
        ((Builtin.append_ #[t, t'] oty #[.slice (some ⟨b, 0, none⟩) m cap, .string ⟨l.toArray⟩]).run P w).andThen fun v w' => .ok (.value v) w' := by
      simp [execOp, resolve, invoke, builtin, hf.eval hx, hf.eval hy]
    have holds : ∀ j u, xs[j]? = some u → w.cell? ((⟨b, 0, none⟩ : Addr).add j) = some u := fun j u hj => by
      rw [add_lit, Nat.zero_add, cell_cells hbg]
      rw [← k4, List.getElem?_take] at hj
      split at hj
      · simpa using hj
      · cases hj
    have hr := run_append_grow_string (P := P) w t t' oty e i zv ht' hu hi hzv ⟨b, 0, none⟩ m cap xs (by rw [hsz, Nat.mul_one]; exact k5) holds ⟨l.toArray⟩ (by rw [hss]; omega) (by rw [hss]; omega) (by rw [hss]; exact growslice_fits (by omega) (by rw [hbz, Nat.mul_one]; exact hb))
    rw [hss, strCells_bytV] at hr
    rw [hex, hr]
    have hge := grownCap_ge w (m + l.length) cap e
    have hok' : ownOk (m + l.length) 1 (xs ++ bytV l) (some (w.heap.size, grownCap w (m + l.length) cap e, xs.toArray ++ (bytV l).toArray ++ Builtin.zeroCells zv.cells (grownCap w (m + l.length) cap e - (m + l.length)))) := by
      refine ⟨hge, grownCap_le_maxLen w (m + l.length) cap e h63, ?_, ?_, ?_⟩
      · simp only [Array.size_append, List.size_toArray, size_zeroCells, hzs, k5, hl]
        omega
      · have hlen : (xs ++ bytV l).length = (m + l.length) * 1 := by rw [List.length_append, k5, hl, Nat.mul_one]
        simp only [Array.toList_append, List.append_assoc]
        rw [← List.append_assoc, ← hlen]
        exact List.take_left
      · rw [List.length_append, k5, hl, Nat.mul_one]
    have := h (_, (0, 0)) hok' (.inl rfl)
    unfold Wl at this
    refine this _ _ (hf.put (dst := some d) (by simpa using hd)) ?_
    rw [hA']
    have hst' : St M w0 w A := hst.sub (by rw [hA]; exact List.sublist_append_left _ _)
    exact (hst'.drew.alloc _).perm (List.perm_append_singleton _ _).symm
  have hroom := Decidable.of_not_not hroom
  unfold Wl
  intro a w hf hst
  unfold wpList
  rw [if_pos (by rw [wanted_of hf hg])]
  refine .inl ?_
  unfold Oper.wp
  have ht' : P.underlying t = some (.slice e) := ht
  obtain ⟨i, hi, hsz⟩ := Option.map_eq_some_iff.1 hs
  have hss : (⟨l.toArray⟩ : ByteArray).size = l.length := bytes_size l
  have hl : (bytV l).length = l.length := by simp [bytV]
  obtain ⟨b, cap, cur⟩ := o
  obtain ⟨k1, k2, k3, k4, k5⟩ := hok
  simp only [Nat.mul_one] at k1 k2 k3 k4 k5 hcap hroom
  have hmem : (⟨b, true, .cells cur e fr⟩ : Ent) ∈ H := by rw [hA]; simp [ogH]
  have hbg := hst.get hmem
  have hex : (execOp a.eval ⟨some d, .call { callee := .builtin .append, args := #[x, y], argTypes := #[t, t'] }, oty, pos, after, g⟩).run P w =
      ((Builtin.append_ #[t, t'] oty #[.slice (some ⟨b, 0, none⟩) m cap, .string ⟨l.toArray⟩]).run P w).andThen fun v w' => .ok (.value v) w' := by
    simp [execOp, resolve, invoke, builtin, hf.eval hx, hf.eval hy]
  have hsrc : Src P i.size t' (.string ⟨l.toArray⟩) l.length (bytV l) w := by
    have := Src.ofString (P := P) (w := w) hu ⟨l.toArray⟩
    rw [hss, byteCells_bytV, ← hsz] at this
    exact this
  have hr := run_append_room_src (P := P) w t t' oty e i ht' hi b 0 m cap (.string ⟨l.toArray⟩) l.length (bytV l) hsrc hroom
    (fun j hj => by rw [hl] at hj; rw [hsz, Nat.mul_one, Nat.zero_add, cell_cells hbg]; simp; omega)
    (fun j hj => by rw [hl] at hj; rw [hsz, Nat.mul_one, Nat.zero_add]; simp only [World.frozen?, hbg]; simp; omega)
  rw [hsz, Nat.mul_one, Nat.zero_add] at hr
  rw [hex, hr]
  have hok' : ownOk (m + l.length) 1 (xs ++ bytV l) (some (b, cap, setA cur m (bytV l))) := by
    refine ⟨hroom, k2, by simp only [setA_size, k3, Nat.mul_one], ?_, by rw [List.length_append, k5, hl, Nat.mul_one]⟩
    simp only [Nat.mul_one]
    have := setA_take (bytV l) m cur (by rw [hl, k3]; exact hroom)
    rw [hl, k4] at this
    exact this
  have := h ((b, cap, setA cur m (bytV l)), fr) hok' (.inr hcap)
  unfold Wl at this
  refine this _ _ (hf.put (dst := some d) (by simpa using hd)) ?_
  rw [hA']
  refine hst.upd ⟨A, [], ?_, rfl⟩ (b := b) (o := .cells cur e fr) (o' := .cells (setA cur m (bytV l)) e fr) (grown_setCells b _ _ _) (heap_setCells b _ _ _ _ _ _ hbg)
  rw [hA]
end
end Go.PB
