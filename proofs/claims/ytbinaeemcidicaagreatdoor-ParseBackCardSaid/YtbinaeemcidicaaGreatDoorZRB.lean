/- Walks: which trees are the same, by the program. No condition. -/
import Derived.Test.YtbinaeemcidicaaGreatDoorZVN
set_option maxRecDepth 100000
set_option maxHeartbeats 16000000
namespace Go.Proofs.YtbinaeemcidicaaGreatDoor
open Go.PB Go.RowKit
attribute [local irreducible] Go.Calls
def coreN (n : Nd) : Int × List UInt8 × List UInt8 × Int × List Int := (n.kd, n.ty, n.tx, n.nm, n.ks)
theorem get_eqI {l m : List Int} (hl : l.length = m.length) (h : ∀ i, i < l.length → l.getD i 0 = m.getD i 0) : l = m := List.ext_getElem hl fun i h1 h2 => by
 have := h i h1
 simpa [List.getD, h1, h2] using this
theorem eqI_ok {M : List Nat} {w0 w : World} {R : List Ent} {v u : Value} {l m : List Int} (hst : St M w0 w R) (hv : RdX R v l.length (intV l)) (hu : RdX R u m.length (intV m)) (hl : l.length ≤ 1048576) :
  Calls Tryz.prog 63 #[v, u] w (Give (.bool (decide (l = m))) w) := by
 have hv' := hv.ro
 have hu' := hu.ro
 obtain ⟨p, c, rfl⟩ := hv.len
 obtain ⟨p', c', rfl⟩ := hu.len
 refine give_of_W (vs := [.slice p l.length c, .slice p' m.length c']) Tryz.func63 rfl Tryz.ntmps63 (Nat.le_of_ble_eq_true rfl) hst.reads ?_
 simp only [argL]
 by_cases hlen : l.length = m.length
 case neg =>
  have hne : l ≠ m := fun e => hlen (by rw [e])
  repeat' (first | (apply gL; first | (apply Wl.ev rfl rfl; exact Zev) | apply Wl.nil) | (apply gQ; first | (apply Wq.ev rfl rfl; exact Zev)) | (apply lW; first | apply W.seq | apply W.region | (refine Zz ?_ ?_ <;> (intro h; try exact Za)) | (refine Zba ?_; intro w hs)))
  all_goals first | exact ret_eq hs (congrArg Value.bool (decide_eq_false hne).symm) | contradiction | exact Zy
 repeat' (first | (apply gL; first | (apply Wl.ev rfl rfl; exact Zev) | apply Wl.nil) | (apply gQ; first | (apply Wq.ev rfl rfl; exact Zev)) | (apply lW; first | apply W.seq | (refine W.loop (X := Nat) (fun j => [(0, .slice p l.length c), (1, .slice p' m.length c'), (12, .int .i64 (l.length : Nat)), (13, .int .i64 (j : Nat))]) (fun _ => ro R) (fun j => j ≤ l.length ∧ ∀ i, i < j → l.getD i 0 = m.getD i 0) (fun j => l.length - j) 0 ⟨Nat.zero_le _, fun i h => absurd h (Nat.not_lt_zero _)⟩ Zn (List.Sublist.refl _) ?_) | apply W.region | apply W.block | apply W.skip | (refine Zz ?_ ?_ <;> (intro h; try exact Za))))
 all_goals first | contradiction | exact Zy | skip
 rintro j ⟨hj, hall⟩
 by_cases hlt : j < l.length
 ·obtain ⟨b, off, c1, arr, et, fr, wr, he, hm, hcc, hgt⟩ := hv'.pos Zf7
  cases he
  obtain ⟨b', off', c1', arr', et', fr', wr', he', hm', hcc', hgt'⟩ := hu'.pos Zf7
  cases he'
  have g0 := hgt j _ (intV_get hlt)
  have g1 := hgt' j _ (intV_get (l := m) Zf7)
  obtain ⟨x, hx⟩ : ∃ x, l.getD j 0 = x := ⟨_, rfl⟩
  obtain ⟨y, hy⟩ : ∃ y, m.getD j 0 = y := ⟨_, rfl⟩
  rw [hx] at g0
  rw [hy] at g1
  by_cases hxy : x = y
  ·repeat' (first | (apply gL; first | (apply Wl.ev rfl rfl; exact Zb3) | apply Wl.nil) | (apply gQ; first | (apply Wq.ev rfl rfl; exact Zb3) | apply Wq.nil) | (apply lW; first | apply W.seq | (refine Zgf ?_) | apply W.region | apply W.block | apply W.blk | apply W.skip | (refine Zz ?_ ?_ <;> (intro h; try exact Za))))
   all_goals first | exact W.again (j + 1) ⟨hlt, fun i hi => by rcases Nat.lt_or_ge i j with h | h; exact hall i h; rw [show i = j by omega, hx, hy, hxy]⟩ Zf7 Zn (List.Sublist.refl _) | contradiction | exact Zy
  ·have hne : l ≠ m := fun e => hxy (by rw [← hx, ← hy, e])
   repeat' (first | (apply gL; first | (apply Wl.ev rfl rfl; exact Zb3) | apply Wl.nil) | (apply gQ; first | (apply Wq.ev rfl rfl; exact Zb3) | apply Wq.nil) | (apply lW; first | apply W.seq | (refine Zgf ?_) | apply W.region | apply W.block | apply W.skip | (refine Zz ?_ ?_ <;> (intro h; try exact Za)) | (refine Zba ?_; intro w hs)))
   all_goals first | exact ret_eq hs (congrArg Value.bool (decide_eq_false hne).symm) | contradiction | exact Zy
 ·obtain rfl : j = l.length := by omega
  have he : l = m := get_eqI hlen hall
  repeat' (first | (apply gL; first | (apply Wl.ev rfl rfl; exact Zev) | apply Wl.nil) | (apply gQ; first | (apply Wq.ev rfl rfl; exact Zev)) | (apply lW; first | apply W.seq | apply W.region | (refine Zcm ?_) | (refine Zz ?_ ?_ <;> (intro h; try exact Za)) | (refine Zba ?_; intro w hs)))
  all_goals first | exact ret_eq hs (congrArg Value.bool (decide_eq_true he).symm) | contradiction | exact Zy
theorem sameN_ok {M : List Nat} {w0 w : World} {R : List Ent} {x y : Nv} (hst : St M w0 w R) (hx : RdX R x.kv x.nd.ks.length (intV x.nd.ks)) (hy : RdX R y.kv y.nd.ks.length (intV y.nd.ks)) (hl : x.nd.ks.length ≤ 1048576) :
  Calls Tryz.prog 32 #[.agg (nvC x).toArray, .agg (nvC y).toArray] w (Give (.bool (decide (coreN x.nd = coreN y.nd))) w) := by
 obtain ⟨q, hq⟩ : ∃ q, decide (x.nd.ks = y.nd.ks) = q := ⟨_, rfl⟩
 have hk : ∀ {M : List Nat} {w0 : World} {H : List Ent} (w : World), St M w0 w H → (∀ e ∈ ro R, e ∈ H) → Calls Tryz.prog 63 #[x.kv, y.kv] w (Give (.bool q) w) := fun w hs hm => by
  rw [← hq]
  exact eqI_ok hs (hx.ro.mono hm) (hy.ro.mono hm) hl
 obtain ⟨p, c, hp⟩ := hx.len
 obtain ⟨p', c', hp'⟩ := hy.len
 refine give_of_W (vs := [.agg (nvC x).toArray, .agg (nvC y).toArray]) Tryz.func32 rfl Tryz.ntmps32 (Nat.le_of_ble_eq_true rfl) hst.reads ?_
 simp only [argL]
 obtain ⟨⟨k1, k2, k3, k4, k5, k6⟩, k7⟩ := x
 obtain ⟨⟨j1, j2, j3, j4, j5, j6⟩, j7⟩ := y
 dsimp only at hp hp' hq hk
 subst hp hp'
 have key : decide (coreN ⟨k1, k2, k3, k4, k5, k6⟩ = coreN ⟨j1, j2, j3, j4, j5, j6⟩) = (decide (k1 = j1) && (decide (k2 = j2) && (decide (k3 = j3) && (decide (k4 = j4) && q)))) := by
  rw [← hq]
  unfold coreN
  simp only [Prod.mk.injEq, Bool.decide_and]
 rw [key]
 clear key
 dsimp only [nvC]
 repeat' (first | (apply gL; first | (apply Wl.ev rfl rfl; exact Zev) | (refine lB 2 ?_; refine wl_box rfl rfl rfl rfl ?_; intro b2) | (refine Zfn ?_; refine wl_box rfl rfl rfl rfl ?_; intro b3) | (refine lD 63 ?_; refine wl_call0 rfl rfl has63 rfl (fun w hs => hk w hs (fun e he => List.Mem.tail _ (List.Mem.tail _ he))) ?_) | apply Wl.nil | (refine Zbr ?_) | ((fail_if_success (apply Wl.chk rfl)); refine Wl.split rfl rfl ?_ ?_ <;> (intro h; try exact Za))) | (apply gQ; first | (apply Wq.ev rfl rfl; exact Zev)) | (apply lW; first | apply W.seq | apply W.region | (refine Zba ?_; intro w hs)))
 all_goals first | exact ret_eq hs (congrArg Value.bool (by simp_all)) | contradiction | exact Zy
end Go.Proofs.YtbinaeemcidicaaGreatDoor
namespace Go.Proofs.YtbinaeemcidicaaGreatDoor
open Go.PB Go.RowKit
attribute [local irreducible] Go.Calls
abbrev coreL (l : List Nv) : List (Int × List UInt8 × List UInt8 × Int × List Int) := l.map fun y => coreN y.nd
theorem core_eq {l m : List Nv} (hl : l.length = m.length) (h : ∀ i, i < l.length → coreN (l.getD i nv0).nd = coreN (m.getD i nv0).nd) : coreL l = coreL m := List.ext_getElem (by simp [hl]) fun i h1 h2 => by
 rw [List.length_map] at h1 h2
 have := h i h1
 simpa [List.getD, h1, h2] using this
theorem core_ne {l m : List Nv} {j : Nat} (h1 : j < l.length) (h2 : j < m.length) (h : coreN (l.getD j nv0).nd ≠ coreN (m.getD j nv0).nd) : coreL l ≠ coreL m := fun e => h (by
 have := congrArg (·[j]?) e
 simp only [List.getElem?_map, List.getElem?_eq_getElem h1, List.getElem?_eq_getElem h2, Option.map_some, Option.some.injEq] at this
 simpa [List.getD, h1, h2] using this)
theorem eqFunc_ok {M : List Nat} {w0 w : World} {R : List Ent} {v u : Value} {l m : List Nv} (hst : St M w0 w R) (hv : RdT R v l) (hu : RdT R u m) (hl : l.length ≤ 1000000) (hz : ∀ y ∈ l, y.nd.ks.length ≤ 1048576) :
  Calls Tryz.prog 31 #[v, u, fnV 32 [] []] w (Give (.bool (decide (coreL l = coreL m))) w) := by
 have hv' := hv.1.ro
 have hu' := hu.1.ro
 obtain ⟨p, c, rfl⟩ := hv.1.len
 obtain ⟨p', c', rfl⟩ := hu.1.len
 refine give_of_W (vs := [.slice p l.length c, .slice p' m.length c', fnV 32 [] []]) Tryz.func31 rfl Tryz.ntmps31 (Nat.le_of_ble_eq_true rfl) hst.reads ?_
 simp only [argL]
 by_cases hlen : l.length = m.length
 case neg =>
  have hne : coreL l ≠ coreL m := fun e => hlen (by simpa using congrArg List.length e)
  repeat' (first | (apply gL; first | (apply Wl.ev rfl rfl; exact Zev) | apply Wl.nil) | (apply gQ; first | (apply Wq.ev rfl rfl; exact Zev)) | (apply lW; first | apply W.seq | apply W.region | (refine Zz ?_ ?_ <;> (intro h; try exact Za)) | (refine Zba ?_; intro w hs)))
  all_goals first | exact ret_eq hs (congrArg Value.bool (decide_eq_false hne).symm) | contradiction | exact Zy
 repeat' (first | (apply gL; first | (apply Wl.ev rfl rfl; exact Zev) | apply Wl.nil) | (apply gQ; first | (apply Wq.ev rfl rfl; exact Zev)) | (apply lW; first | apply W.seq | (refine W.loop (X := Nat) (fun j => [(0, .slice p l.length c), (1, .slice p' m.length c'), (2, fnV 32 [] []), (15, .slice p l.length c), (16, .int .i64 (l.length : Nat)), (17, .int .i64 (j : Nat))]) (fun _ => ro R) (fun j => j ≤ l.length ∧ ∀ i, i < j → coreN (l.getD i nv0).nd = coreN (m.getD i nv0).nd) (fun j => l.length - j) 0 ⟨Nat.zero_le _, fun i h => absurd h (Nat.not_lt_zero _)⟩ Zn (List.Sublist.refl _) ?_) | apply W.region | apply W.block | apply W.skip | (refine Zz ?_ ?_ <;> (intro h; try exact Za))))
 all_goals first | contradiction | exact Zy | skip
 rintro j ⟨hj, hall⟩
 by_cases hlt : j < l.length
 ·obtain ⟨b, off, c1, arr, et, fr, wr, he, hm, hcc, hgt⟩ := hv'.pos Zf7
  cases he
  obtain ⟨b', off', c1', arr', et', fr', wr', he', hm', hcc', hgt'⟩ := hu'.pos Zf7
  cases he'
  have g0 : ∀ (f : Nat) u, (nvC (l.getD j nv0))[f]? = some u → ∀ o, o = off + (j * 6 + f) → arr[o]? = some u := fun f u h => hgt _ _ (nvsC_get hlt h)
  have g1 : ∀ (f : Nat) u, (nvC (m.getD j nv0))[f]? = some u → ∀ o, o = off' + (j * 6 + f) → arr'[o]? = some u := fun f u h => hgt' _ _ (nvsC_get Zf7 h)
  have hxv := hv.2 _ (getD_memN hlt)
  have hxz := hz _ (getD_memN hlt)
  have hyv := hu.2 _ (getD_memN (l := m) (j := j) Zf7)
  obtain ⟨q, hq⟩ : ∃ q, decide (coreN (l.getD j nv0).nd = coreN (m.getD j nv0).nd) = q := ⟨_, rfl⟩
  have hcf : ∀ {M : List Nat} {w0 : World} {H : List Ent} (w : World), St M w0 w H → (∀ e ∈ ro R, e ∈ H) → Calls Tryz.prog 32 (([] : List Value) ++ [Value.agg (nvC (l.getD j nv0)).toArray, Value.agg (nvC (m.getD j nv0)).toArray] ++ ([] : List Value)).toArray w (Give (.bool q) w) := fun w hs hm => by
   rw [← hq]
   exact sameN_ok hs (hxv.ro.mono hm) (hyv.ro.mono hm) hxz
  have hnx : ¬q = true → coreL l ≠ coreL m := fun h => core_ne hlt Zf7 (fun e => h (by rw [← hq]; exact decide_eq_true e))
  have hyx : q = true → ∀ i, i < j + 1 → coreN (l.getD i nv0).nd = coreN (m.getD i nv0).nd := fun h i hi => by
   rcases Nat.lt_or_ge i j with h' | h'
   ·exact hall i h'
   ·rw [show i = j by omega]
    rw [← hq] at h
    exact of_decide_eq_true h
  obtain ⟨⟨⟨k1, k2, k3, k4, k5, k6⟩, k7⟩, hx⟩ : ∃ x, l.getD j nv0 = x := ⟨_, rfl⟩
  obtain ⟨⟨⟨j1, j2, j3, j4, j5, j6⟩, j7⟩, hy⟩ : ∃ x, m.getD j nv0 = x := ⟨_, rfl⟩
  rw [hx] at g0 hxv hcf
  rw [hy] at g1 hyv hcf
  obtain ⟨kp, kc, rfl⟩ : ∃ p c, k7 = .slice p k5.length c := hxv.len
  obtain ⟨jp, jc, rfl⟩ : ∃ p c, j7 = .slice p j5.length c := hyv.len
  cases q with
  | true =>
   have hyx := hyx rfl
   repeat' (first | (apply gL; first | (apply Wl.ev rfl rfl; exact Zbj) | (refine lA 8 ?_; refine wl_alloc rfl rfl (zeroT rfl) ?_; intro b8) | (refine lA 9 ?_; refine wl_alloc rfl rfl (zeroT rfl) ?_; intro b9) | (refine Zf8 ?_) | (refine lV 29 ?_; refine wl_callG (f := 32) (bs := []) (cs := []) (val := fun _ : Unit => .bool true) (φ := fun _ => True) (H' := fun _ => ⟨b9, true, row [.int .i64 j1, st j2, st j3, .int .i32 j4, .slice jp j5.length jc, .int .i64 j6] 47⟩ :: ⟨b8, true, row [.int .i64 k1, st k2, st k3, .int .i32 k4, .slice kp k5.length kc, .int .i64 k6] 47⟩ :: ro R) rfl rfl has32 rfl rfl Zey ?_; intro q0 hq0; clear hq0) | apply Wl.nil) | (apply gQ; first | (apply Wq.ev rfl rfl; exact Zbj)) | (apply lW; first | apply W.seq | apply W.region | apply W.block | apply W.blk | apply W.skip | (refine Zbg ?_) | (refine Zz ?_ ?_ <;> (intro h; try exact Za))))
   all_goals first | exact W.again (j + 1) ⟨hlt, hyx⟩ (by show l.length - (j + 1) < l.length - j; omega) Zn (by repeat (first | exact List.Sublist.refl _ | apply List.Sublist.cons)) | contradiction | exact Zy
  | false =>
   have hnx := hnx Zgh
   repeat' (first | (apply gL; first | (apply Wl.ev rfl rfl; exact Zbj) | (refine lA 8 ?_; refine wl_alloc rfl rfl (zeroT rfl) ?_; intro b8) | (refine lA 9 ?_; refine wl_alloc rfl rfl (zeroT rfl) ?_; intro b9) | (refine Zf8 ?_) | (refine lV 29 ?_; refine wl_callG (f := 32) (bs := []) (cs := []) (val := fun _ : Unit => .bool false) (φ := fun _ => True) (H' := fun _ => ⟨b9, true, row [.int .i64 j1, st j2, st j3, .int .i32 j4, .slice jp j5.length jc, .int .i64 j6] 47⟩ :: ⟨b8, true, row [.int .i64 k1, st k2, st k3, .int .i32 k4, .slice kp k5.length kc, .int .i64 k6] 47⟩ :: ro R) rfl rfl has32 rfl rfl Zey ?_; intro q0 hq0; clear hq0) | apply Wl.nil) | (apply gQ; first | (apply Wq.ev rfl rfl; exact Zbj)) | (apply lW; first | apply W.seq | apply W.region | apply W.block | apply W.skip | (refine Zbk ?_) | (refine Zz ?_ ?_ <;> (intro h; try exact Za)) | (refine Zba ?_; intro w hs)))
   all_goals first | exact ret_eq hs (congrArg Value.bool (decide_eq_false hnx).symm) | contradiction | exact Zy
 ·obtain rfl : j = l.length := by omega
  have he := core_eq hlen hall
  repeat' (first | (apply gL; first | (apply Wl.ev rfl rfl; exact Zev) | apply Wl.nil) | (apply gQ; first | (apply Wq.ev rfl rfl; exact Zev)) | (apply lW; first | apply W.seq | apply W.region | (refine Zcm ?_) | (refine Zz ?_ ?_ <;> (intro h; try exact Za)) | (refine Zba ?_; intro w hs)))
  all_goals first | exact ret_eq hs (congrArg Value.bool (decide_eq_true he).symm) | contradiction | exact Zy
theorem sameT_ok {M : List Nat} {w0 w : World} {R : List Ent} {v u : Value} {l m : List Nv} (hst : St M w0 w R) (hv : RdT R v l) (hu : RdT R u m) (hl : l.length ≤ 1000000) (hz : ∀ y ∈ l, y.nd.ks.length ≤ 1048576) :
  Calls Tryz.prog 16 #[.agg [v].toArray, .agg [u].toArray] w (Give (.bool (decide (coreL l = coreL m))) w) := by
 have hv' : RdT (ro R) v l := ⟨hv.1.ro, fun y hy => (hv.2 y hy).ro⟩
 have hu' : RdT (ro R) u m := ⟨hu.1.ro, fun y hy => (hu.2 y hy).ro⟩
 obtain ⟨p, c, rfl⟩ := hv.1.len
 obtain ⟨p', c', rfl⟩ := hu.1.len
 refine give_of_W (vs := [.agg [.slice p l.length c].toArray, .agg [.slice p' m.length c'].toArray]) Tryz.func16 rfl Tryz.ntmps16 (Nat.le_of_ble_eq_true rfl) hst.reads ?_
 simp only [argL]
 repeat' (first | (apply gL; first | (apply Wl.ev rfl rfl; exact Zev) | (refine lB 2 ?_; refine wl_box rfl rfl rfl rfl ?_; intro b2) | (refine Zfn ?_; refine wl_box rfl rfl rfl rfl ?_; intro b3) | (refine lD 31 ?_; refine wl_call0 rfl rfl has31 rfl (fun w hs => eqFunc_ok hs (hv'.mono (fun e he => List.Mem.tail _ (List.Mem.tail _ he))) (hu'.mono (fun e he => List.Mem.tail _ (List.Mem.tail _ he))) hl hz) ?_) | apply Wl.nil) | (apply gQ; first | (apply Wq.ev rfl rfl; exact Zev)) | (apply lW; first | apply W.seq | apply W.region | (refine Zba ?_; intro w hs)))
 all_goals first | exact ret_eq hs rfl | contradiction | exact Zy
end Go.Proofs.YtbinaeemcidicaaGreatDoor
