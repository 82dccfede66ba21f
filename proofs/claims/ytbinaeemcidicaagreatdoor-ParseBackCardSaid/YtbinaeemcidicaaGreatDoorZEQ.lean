/- Slices that a function of its own makes and lets grow: a rule of the walk. No condition. -/
import Derived.Test.YtbinaeemcidicaaGreatDoorZEng
import Derived.Lib.AppendStr
import Derived.Laws.MakeOwn
set_option maxHeartbeats 16000000
namespace Go.PB
open Go.RowKit
section
variable {P : Program} {ops : Array Oper} {Q : Exit → Act → World → Prop} {M : List Nat} {w0 : World} {n : Nat} {D : List Deferred} {L : List (Nat × Value)} {H : List Ent} {rest : List Oper}
 {d : Tmp} {oty t : TypeId} {pos : String} {after : Array Edge} {g : Option (Nat × Bool)} {x y : Operand}
theorem St.perm {w : World} {H' : List Ent} (h : St M w0 w H) (hp : List.Perm H H') : St M w0 w H' :=
 ⟨h.os, h.tape, h.output, h.size, h.frame, fun p hm => h.own p (hp.symm.subset hm), (hp.pairwise_iff (fun {_ _} hpq e => (hpq e.symm).symm)).1 h.apart⟩
abbrev Ow := Option (Nat × Nat × Array Value)
def ownV (n : Nat) : Ow → Value
 | none => .slice none 0 0
 | some o => .slice (some ⟨o.1, 0, none⟩) n o.2.1
def ownH (e : TypeId) : Ow → List Ent
 | none => []
 | some o => [⟨o.1, true, .cells o.2.2 e (0, 0)⟩]
def ownOk (n sz : Nat) (xs : List Value) : Ow → Prop
 | none => n = 0 ∧ xs = []
 | some o => n ≤ o.2.1 ∧ o.2.1 ≤ maxLen ∧ o.2.2.size = o.2.1 * sz ∧ o.2.2.toList.take (n * sz) = xs ∧ xs.length = n * sz
def TailUp {X : Type} (H T : List Ent) (T' H' : X → List Ent) : Prop := ∃ A, H = A ++ T ∧ ∀ x, H' x = A ++ T' x
theorem TailUp.here {X : Type} {T : List Ent} {T' : X → List Ent} : TailUp T T T' T' := ⟨[], rfl, fun _ => rfl⟩
theorem TailUp.there {X : Type} {H T : List Ent} {T' H' : X → List Ent} {p : Ent} (h : TailUp H T T' H') : TailUp (p :: H) T T' (fun x => p :: H' x) := by
 obtain ⟨A, h1, h2⟩ := h
 exact ⟨p :: A, by rw [h1]; rfl, fun x => by show p :: H' x = _; rw [h2]; rfl⟩
theorem wl_append_own {e et : TypeId} {sz bytes m k c gb off : Nat} {o : Ow} {xs news z : List Value} {arr : Array Value} {fr : Nat × Nat} {wr : Bool} {H' : Ow → List Ent} (hg : gdv ops L g = some true) (hd : Nat.blt d n = true)
  (ht : Sl P t e) (hs : Sz P e sz) (hby : By P e bytes) (hz : Zero P e z) (hzl : z.length = sz)
  (hx : evo L x = some (ownV m o)) (hy : evo L y = some (.slice (some ⟨gb, off, none⟩) k c)) (hok : ownOk m sz xs o)
  (hm : (⟨gb, wr, .cells arr et fr⟩ : Ent) ∈ H) (hl : news.length = k * sz) (hc : ∀ (j : Nat) v, news[j]? = some v → arr[off + j]? = some v) (h1 : ∀ u ∈ news, u.oneCell' = true) (hk : 0 < k)
  (h63 : m + k ≤ maxLen) (hb : (m + k) * bytes ≤ 140737488355328) (hT : TailUp H (ownH e o) (ownH e) H')
  (h : ∀ o', ownOk (m + k) sz (xs ++ news) o' → Wl P ops Q M w0 n D rest ((d, ownV (m + k) o') :: L) (H' o')) :
  Wl P ops Q M w0 n D (⟨some d, .call { callee := .builtin .append, args := #[x, y], argTypes := #[t, t] }, oty, pos, after, g⟩ :: rest) L H := by
 unfold Wl
 intro a w hf hst
 unfold wpList
 rw [if_pos Zck]
 refine .inl ?_
 unfold Oper.wp
 have ht' : P.underlying t = some (.slice e) := ht
 obtain ⟨i, hi, hsz⟩ := Option.map_eq_some_iff.1 hs
 obtain ⟨i2, hi2, hbz⟩ := Option.map_eq_some_iff.1 hby
 obtain ⟨i3, zv, hi3, hzv, hzc⟩ := hz
 rw [hi] at hi2 hi3
 cases hi2
 cases hi3
 subst hsz hbz
 have hsmall : m + k ≤ 9223372036854775807 := by simp only [maxLen] at h63; omega
 have hzs : zv.cells.size = i.size := by rw [hzc]; simpa using hzl
 have hnews : ∀ j u, news[j]? = some u → w.cell? ((⟨gb, off, none⟩ : Addr).add j) = some u := fun j v hj => by rw [add_lit, cell_cells (hst.get hm)]; exact hc j v hj
 have hex : ∀ v, a.eval x = v → (execOp a.eval ⟨some d, .call { callee := .builtin .append, args := #[x, y], argTypes := #[t, t] }, oty, pos, after, g⟩).run P w =
   ((Builtin.append_ #[t, t] oty #[v, .slice (some ⟨gb, off, none⟩) k c]).run P w).andThen fun v w' => .ok (.value v) w' := fun v hv => by
  simp [execOp, resolve, invoke, builtin, hv, hf.eval hy]
 obtain ⟨A, hA, hA'⟩ := hT
 have fin : ∀ o' w', ownOk (m + k) i.size (xs ++ news) o' → St M w0 w' (A ++ ownH e o') → wpList P ops Q rest (a.put (some d) (ownV (m + k) o')) w' := fun o' w' ho hs' => by
  have := h o' ho
  unfold Wl at this
  exact this _ _ (hf.put (dst := some d) Zct) (by rw [hA']; exact hs')
 have grown : ∀ (old : Nat), old < m + k → ownOk (m + k) i.size (xs ++ news) (some (w.heap.size, grownCap w (m + k) old e, xs.toArray ++ news.toArray ++ Builtin.zeroCells zv.cells (grownCap w (m + k) old e - (m + k)))) ∨ xs.length ≠ m * i.size := fun old _ => by
  by_cases hxl : xs.length = m * i.size
  ·refine .inl ⟨grownCap_ge w (m + k) old e, grownCap_le_maxLen w (m + k) old e h63, ?_, ?_, ?_⟩
   ·have hge := grownCap_ge w (m + k) old e
    simp only [Array.size_append, List.size_toArray, size_zeroCells, hzs, hxl, hl, ← Nat.add_mul]
    congr 1
    omega
   ·have hlen : (xs ++ news).length = (m + k) * i.size := by rw [List.length_append, hxl, hl, Nat.add_mul]
    simp only [Array.toList_append, List.append_assoc]
    rw [← List.append_assoc, ← hlen]
    exact List.take_left
   ·rw [List.length_append, hxl, hl, Nat.add_mul]
  ·exact .inr hxl
 cases o with
 | none =>
  obtain ⟨rfl, rfl⟩ := hok
  rw [hex _ (hf.eval hx)]
  have hr := run_append_nil (P := P) w t oty e i zv ht' hi hzv ⟨gb, off, none⟩ k c news hl hnews hk Zf7 (by rw [Nat.zero_add] at hb; omega)
  have hgr := (grown 0 Zf7).resolve_right Zgh
  rw [Nat.zero_add] at hgr
  have hst' : St M w0 w A := by rw [hA] at hst; simpa [ownH] using hst
  have := fin (some (w.heap.size, grownCap w k 0 e, news.toArray ++ Builtin.zeroCells zv.cells (grownCap w k 0 e - k))) _ (by rw [Nat.zero_add]; simpa using hgr) ((hst'.drew.alloc _).perm (List.perm_append_singleton _ _).symm)
  show Oper.upon _ _ _ _ _ (Result.andThen ((Builtin.append_ #[t, t] oty #[.slice none 0 0, .slice (some ⟨gb, off, none⟩) k c]).run P w) _)
  rw [hr]
  rw [Nat.zero_add] at this
  exact this
 | some o =>
  obtain ⟨b, cap, cur⟩ := o
  obtain ⟨k1, k2, k3, k4, k5⟩ := hok
  simp only at k1 k2 k3 k4
  have hmem : (⟨b, true, .cells cur e (0, 0)⟩ : Ent) ∈ H := by rw [hA]; simp [ownH]
  have hbg := hst.get hmem
  rw [hex _ (hf.eval hx)]
  by_cases hroom : m + k ≤ cap
  ·have hfit : m * i.size + news.length ≤ cur.size := by rw [hl, k3, ← Nat.add_mul]; exact Nat.mul_le_mul_right _ hroom
   have hr := run_append_room (P := P) w t oty e i ht' hi b m cap cur hbg ⟨gb, off, none⟩ k c news hl hnews h1 hroom hfit
   show Oper.upon _ _ _ _ _ (Result.andThen ((Builtin.append_ #[t, t] oty #[.slice (some ⟨b, 0, none⟩) m cap, .slice (some ⟨gb, off, none⟩) k c]).run P w) _)
   rw [hr]
   refine fin (some (b, cap, (cur.toList.take (m * i.size) ++ news ++ cur.toList.drop (m * i.size + news.length)).toArray)) _ ⟨hroom, k2, ?_, ?_, ?_⟩ ?_
   ·simp only [List.size_toArray, List.length_append, List.length_take, List.length_drop, Array.length_toList]
    omega
   ·have hlen : (xs ++ news).length = (m + k) * i.size := by rw [List.length_append, k5, hl, Nat.add_mul]
    simp only
    rw [k4, ← hlen]
    exact List.take_left
   ·rw [List.length_append, k5, hl, Nat.add_mul]
   ·refine hst.upd ⟨A, [], ?_, ?_⟩ (b := b) (o := .cells cur e (0, 0)) (o' := .cells (cur.toList.take (m * i.size) ++ news ++ cur.toList.drop (m * i.size + news.length)).toArray e (0, 0)) ?_ ?_
    ·rw [hA]; rfl
    ·rfl
    ·exact ⟨rfl, rfl, rfl, by simp, fun j _ hj => setRow_other w b j _ (fun e => hj (by rw [e]))⟩
    ·exact setRow_heap w b cur _ e _ hbg
  ·have holds : ∀ j u, xs[j]? = some u → w.cell? ((⟨b, 0, none⟩ : Addr).add j) = some u := fun j u hj => by
    rw [add_lit, Nat.zero_add, cell_cells hbg]
    rw [← k4, List.getElem?_take] at hj
    split at hj
    ·simpa using hj
    ·cases hj
   have hr := run_append_grow (P := P) w t oty e i zv ht' hi hzv ⟨b, 0, none⟩ m cap xs k5 holds ⟨gb, off, none⟩ k c news hl hnews Zf7 Zf7 (growslice_fits Zf7 hb)
   show Oper.upon _ _ _ _ _ (Result.andThen ((Builtin.append_ #[t, t] oty #[.slice (some ⟨b, 0, none⟩) m cap, .slice (some ⟨gb, off, none⟩) k c]).run P w) _)
   rw [hr]
   refine fin (some (w.heap.size, grownCap w (m + k) cap e, xs.toArray ++ news.toArray ++ Builtin.zeroCells zv.cells (grownCap w (m + k) cap e - (m + k)))) _ ((grown cap Zf7).resolve_right (by simp [k5])) ?_
   have hst' : St M w0 w A := hst.sub (by rw [hA]; exact List.sublist_append_left _ _)
   exact (hst'.drew.alloc _).perm (List.perm_append_singleton _ _).symm
theorem ev_len_own {e : TypeId} {m sz : Nat} {xs : List Value} {o : Ow} (ht : Sl P t e) (hok : ownOk m sz xs o) (hx : evo L x = some (ownV m o)) : Ev P M w0 n D L H (.call { callee := .builtin .len, args := #[x], argTypes := #[t] }) oty (.int .i64 (m : Nat)) := by
 cases o with
 | none =>
  obtain ⟨rfl, _⟩ := hok
  exact ev_len_slice ht hx
 | some o => exact ev_len_slice ht hx
end
section
variable {P : Program} {fn : Func} {R : Ending → World → Prop} {M : List Nat} {w0 : World} {n : Nat} {L : List (Nat × Value)} {H : List Ent} {k : List Kt} {t : TypeId} {p q : Tmp} {b : Nat} {l : List Value} {e : TypeId} {wr : Bool} {v : Value}
theorem W.rettc (hr : fn.results = #[.tmp p, .cell q t]) (hv : look L p = some v) (hx : look L q = some (.pointer (some ⟨b, 0, none⟩))) (hu : Ag P t true) (hm : (⟨b, wr, row l e⟩ : Ent) ∈ H) (hs : Sz P t l.length)
  (h : ∀ w, St M w0 w H → R (.returned (.tuple #[v, .agg l.toArray])) w) : W P (bodyPost P fn R) M w0 n [] (.inl .ret :: k) L H :=
 W.ret fun a w hf hst => bodyPost_ret (v := .tuple #[v, .agg l.toArray]) (by simp [results, hr, hf.has p _ hv, hf.has q _ hx, asAddr, run_loadWhole hu hs (hst.get hm)]) hf.defers (h w hst)
end
end Go.PB
namespace Go.PB
open Go.RowKit
section
variable {P : Program} {ops : Array Oper} {Q : Exit → Act → World → Prop} {M : List Nat} {w0 : World} {n : Nat} {D : List Deferred} {L : List (Nat × Value)} {H : List Ent} {rest : List Oper}
 {oty t : TypeId} {pos : String} {after : Array Edge} {g : Option (Nat × Bool)} {x y : Operand}
end
end Go.PB
namespace Go.PB
open Go.RowKit Go.Lib
section
variable {P : Program} {ops : Array Oper} {Q : Exit → Act → World → Prop} {M : List Nat} {w0 : World} {n : Nat} {D : List Deferred} {L : List (Nat × Value)} {H : List Ent} {rest : List Oper}
 {d : Tmp} {oty t t' : TypeId} {pos : String} {after : Array Edge} {g : Option (Nat × Bool)} {x y : Operand}
theorem strCells_bytV (l : List UInt8) : strCells ⟨l.toArray⟩ = bytV l := by simp [strCells, bytV]
theorem wl_appendStr {e : TypeId} {m : Nat} {o : Ow} {xs : List Value} {l : List UInt8} {H' : Ow → List Ent} (hg : gdv ops L g = some true) (hd : Nat.blt d n = true)
  (ht : Sl P t e) (hu : P.underlying t' = some .string) (hs : Sz P e 1) (hby : By P e 1) (hz : Zero P e [.int .u8 0])
  (hx : evo L x = some (ownV m o)) (hy : evo L y = some (.string ⟨l.toArray⟩)) (hok : ownOk m 1 xs o) (hk : 0 < l.length)
  (h63 : m + l.length ≤ maxLen) (hb : m + l.length ≤ 140737488355328) (hT : TailUp H (ownH e o) (ownH e) H')
  (h : ∀ o', ownOk (m + l.length) 1 (xs ++ bytV l) o' → Wl P ops Q M w0 n D rest ((d, ownV (m + l.length) o') :: L) (H' o')) :
  Wl P ops Q M w0 n D (⟨some d, .call { callee := .builtin .append, args := #[x, y], argTypes := #[t, t'] }, oty, pos, after, g⟩ :: rest) L H := by
 unfold Wl
 intro a w hf hst
 unfold wpList
 rw [if_pos Zck]
 refine .inl ?_
 unfold Oper.wp
 have ht' : P.underlying t = some (.slice e) := ht
 obtain ⟨i, hi, hsz⟩ := Option.map_eq_some_iff.1 hs
 obtain ⟨i2, hi2, hbz⟩ := Option.map_eq_some_iff.1 hby
 obtain ⟨i3, zv, hi3, hzv, hzc⟩ := hz
 rw [hi] at hi2 hi3
 cases hi2
 cases hi3
 have hsmall : m + l.length ≤ 9223372036854775807 := by simp only [maxLen] at h63; omega
 have hss : (⟨l.toArray⟩ : ByteArray).size = l.length := bytes_size l
 have hzs : zv.cells.size = 1 := by rw [hzc]; rfl
 have hl : (bytV l).length = l.length := by simp [bytV]
 have h1 : ∀ u ∈ bytV l, u.oneCell' = true := by
  intro u hu
  obtain ⟨b, _, rfl⟩ := List.mem_map.1 hu
  rfl
 have hex : ∀ v, a.eval x = v → (execOp a.eval ⟨some d, .call { callee := .builtin .append, args := #[x, y], argTypes := #[t, t'] }, oty, pos, after, g⟩).run P w =
   ((Builtin.append_ #[t, t'] oty #[v, .string ⟨l.toArray⟩]).run P w).andThen fun v w' => .ok (.value v) w' := fun v hv => by
  simp [execOp, resolve, invoke, builtin, hv, hf.eval hy]
 obtain ⟨A, hA, hA'⟩ := hT
 have fin : ∀ o' w', ownOk (m + l.length) 1 (xs ++ bytV l) o' → St M w0 w' (A ++ ownH e o') → wpList P ops Q rest (a.put (some d) (ownV (m + l.length) o')) w' := fun o' w' ho hs' => by
  have := h o' ho
  unfold Wl at this
  exact this _ _ (hf.put (dst := some d) Zct) (by rw [hA']; exact hs')
 have grown : ∀ (old : Nat), xs.length = m → old < m + l.length → ownOk (m + l.length) 1 (xs ++ bytV l) (some (w.heap.size, grownCap w (m + l.length) old e, xs.toArray ++ (bytV l).toArray ++ Builtin.zeroCells zv.cells (grownCap w (m + l.length) old e - (m + l.length)))) := fun old hxl _ => by
  have hge := grownCap_ge w (m + l.length) old e
  refine ⟨hge, grownCap_le_maxLen w (m + l.length) old e h63, ?_, ?_, ?_⟩
  ·simp only [Array.size_append, List.size_toArray, size_zeroCells, hzs, hxl, hl]
   omega
  ·have hlen : (xs ++ bytV l).length = (m + l.length) * 1 := by rw [List.length_append, hxl, hl, Nat.mul_one]
   simp only [Array.toList_append, List.append_assoc]
   rw [← List.append_assoc, ← hlen]
   exact List.take_left
  ·rw [List.length_append, hxl, hl, Nat.mul_one]
 cases o with
 | none =>
  obtain ⟨rfl, rfl⟩ := hok
  rw [hex _ (hf.eval hx)]
  have hr := run_append_nil_string (P := P) w t t' oty e i zv ht' hu hi hzv ⟨l.toArray⟩ (by rw [hss]; exact hk) (by rw [hss]; omega) (by rw [hss, hbz]; omega)
  rw [hss] at hr
  have hgr := grown 0 rfl Zf7
  rw [Nat.zero_add] at hgr
  have hst' : St M w0 w A := by rw [hA] at hst; simpa [ownH] using hst
  have hda : (⟨l.toArray⟩ : ByteArray).data.map (fun b => Value.int .u8 b.toNat) = (bytV l).toArray := by
   apply Array.ext'
   simp [bytV]
  rw [hda] at hr
  have := fin (some (w.heap.size, grownCap w l.length 0 e, (bytV l).toArray ++ Builtin.zeroCells zv.cells (grownCap w l.length 0 e - l.length))) _ (by rw [Nat.zero_add]; simpa using hgr) ((hst'.drew.alloc _).perm (List.perm_append_singleton _ _).symm)
  show Oper.upon _ _ _ _ _ (Result.andThen ((Builtin.append_ #[t, t'] oty #[.slice none 0 0, .string ⟨l.toArray⟩]).run P w) _)
  rw [hr]
  rw [Nat.zero_add] at this
  exact this
 | some o =>
  obtain ⟨b, cap, cur⟩ := o
  obtain ⟨k1, k2, k3, k4, k5⟩ := hok
  simp only [Nat.mul_one] at k1 k2 k3 k4 k5
  have hmem : (⟨b, true, .cells cur e (0, 0)⟩ : Ent) ∈ H := by rw [hA]; simp [ownH]
  have hbg := hst.get hmem
  rw [hex _ (hf.eval hx)]
  by_cases hroom : m + l.length ≤ cap
  ·have hr := run_append_room_string (P := P) w t t' oty e i ht' hu hi hsz b m cap cur hbg ⟨l.toArray⟩ (by rw [hss]; exact hroom) (by rw [hss, k3]; exact hroom)
   rw [hss, strCells_bytV] at hr
   show Oper.upon _ _ _ _ _ (Result.andThen ((Builtin.append_ #[t, t'] oty #[.slice (some ⟨b, 0, none⟩) m cap, .string ⟨l.toArray⟩]).run P w) _)
   rw [hr]
   refine fin (some (b, cap, (cur.toList.take m ++ bytV l ++ cur.toList.drop (m + l.length)).toArray)) _ ⟨hroom, k2, ?_, ?_, ?_⟩ ?_
   ·simp only [List.size_toArray, List.length_append, List.length_take, List.length_drop, Array.length_toList, hl]
    omega
   ·have hlen : (xs ++ bytV l).length = (m + l.length) * 1 := by rw [List.length_append, k5, hl, Nat.mul_one]
    simp only
    rw [k4, ← hlen]
    exact List.take_left
   ·rw [List.length_append, k5, hl, Nat.mul_one]
   ·refine hst.upd ⟨A, [], ?_, ?_⟩ (b := b) (o := .cells cur e (0, 0)) (o' := .cells (cur.toList.take m ++ bytV l ++ cur.toList.drop (m + l.length)).toArray e (0, 0)) ?_ ?_
    ·rw [hA]; rfl
    ·rfl
    ·exact ⟨rfl, rfl, rfl, by simp, fun j _ hj => setRow_other w b j _ (fun e => hj (by rw [e]))⟩
    ·exact setRow_heap w b cur _ e _ hbg
  ·have holds : ∀ j u, xs[j]? = some u → w.cell? ((⟨b, 0, none⟩ : Addr).add j) = some u := fun j u hj => by
    rw [add_lit, Nat.zero_add, cell_cells hbg]
    rw [← k4, List.getElem?_take] at hj
    split at hj
    ·simpa using hj
    ·cases hj
   have hr := run_append_grow_string (P := P) w t t' oty e i zv ht' hu hi hzv ⟨b, 0, none⟩ m cap xs (by rw [hsz, Nat.mul_one]; exact k5) holds ⟨l.toArray⟩ (by rw [hss]; omega) (by rw [hss]; omega) (by rw [hss]; exact growslice_fits Zf7 (by rw [hbz, Nat.mul_one]; exact hb))
   rw [hss, strCells_bytV] at hr
   show Oper.upon _ _ _ _ _ (Result.andThen ((Builtin.append_ #[t, t'] oty #[.slice (some ⟨b, 0, none⟩) m cap, .string ⟨l.toArray⟩]).run P w) _)
   rw [hr]
   refine fin (some (w.heap.size, grownCap w (m + l.length) cap e, xs.toArray ++ (bytV l).toArray ++ Builtin.zeroCells zv.cells (grownCap w (m + l.length) cap e - (m + l.length)))) _ (grown cap k5 Zf7) ?_
   have hst' : St M w0 w A := hst.sub (by rw [hA]; exact List.sublist_append_left _ _)
   exact (hst'.drew.alloc _).perm (List.perm_append_singleton _ _).symm
theorem wl_makeSlice {e : TypeId} {sz bytes m c : Nat} {z : List Value} (hg : gdv ops L g = some true) (hd : Nat.blt d n = true) (ht : Sl P t e) (hs : Sz P e sz) (hby : By P e bytes) (hz : Zero P e z)
  (hx : evo L x = some (.int .i64 (m : Nat))) (hy : evo L y = some (.int .i64 (c : Nat))) (hmc : m ≤ c) (hcells : c * sz ≤ 16777216) (hb : bytes * c ≤ 281474976710656) (hc63' : c ≤ 9223372036854775807)
  (h : ∀ b, Wl P ops Q M w0 n D rest ((d, .slice (some ⟨b, 0, none⟩) m c) :: L) (⟨b, true, .cells (madeCells z.toArray (c * sz)) e (0, 0)⟩ :: H)) :
  Wl P ops Q M w0 n D (⟨some d, .makeSlice t x y, oty, pos, after, g⟩ :: rest) L H := by
 unfold Wl at h ⊢
 intro a w hf hst
 unfold wpList
 rw [if_pos Zck]
 refine .inl ?_
 unfold Oper.wp
 have ht' : P.underlying t = some (.slice e) := ht
 obtain ⟨i, hi, hsz⟩ := Option.map_eq_some_iff.1 hs
 obtain ⟨i2, hi2, hbz⟩ := Option.map_eq_some_iff.1 hby
 obtain ⟨i3, zv, hi3, hzv, hzc⟩ := hz
 rw [hi] at hi2 hi3
 cases hi2
 cases hi3
 subst hsz hbz
 have hbc : (i.bytes : Int) * (c : Int) ≤ 281474976710656 := by
  have h : ((i.bytes * c : Nat) : Int) ≤ 281474976710656 := by omega
  rwa [Int.natCast_mul] at h
 have hc63 : (c : Int) ≤ 9223372036854775807 := by omega
 have hr := run_makeSlice (P := P) w t e i zv ht' hi hzv .i64 .i64 m c Zf7 Zf7 (by simpa using hcells) hbc hc63
 have hex : (execOp a.eval ⟨some d, .makeSlice t x y, oty, pos, after, g⟩).run P w = ((Instr.makeSlice t (.int .i64 m) (.int .i64 c)).run P w).andThen fun v w' => .ok (.value v) w' := by
  simp [execOp, hf.eval hx, hf.eval hy]
 rw [hex, hr, hzc]
 exact h _ _ _ (hf.put (dst := some d) Zct) (hst.alloc _)
end
end Go.PB
