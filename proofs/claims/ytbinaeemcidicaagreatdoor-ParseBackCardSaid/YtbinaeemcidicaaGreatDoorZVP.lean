/- Walks: what a node's kids may be. No condition. -/
import Derived.Test.YtbinaeemcidicaaGreatDoorZVH
import Derived.Test.YtbinaeemcidicaaGreatDoorZVN
import Derived.Test.YtbinaeemcidicaaGreatDoorZYJ
import Derived.Test.YtbinaeemcidicaaGreatDoorZPU
set_option maxRecDepth 100000
set_option maxHeartbeats 16000000
namespace Go.Proofs.YtbinaeemcidicaaGreatDoor
open Go.PB Go.RowKit
attribute [local irreducible] Go.Calls
theorem kinds1_ok {M : List Nat} {w0 w : World} {H : List Ent} {kb k : Nat} {wr : Bool} {x : Int} (hst : St M w0 w H) (hm : (⟨kb, wr, row [.int .i64 (k : Nat)] 3⟩ : Ent) ∈ H) (hk : k ≤ 1000000) :
  Calls Tryz.prog 106 #[.int .i64 x, ptr kb] w (GivesS (fun nb : Nat => .slice (some ⟨nb, 0, none⟩) k k) (fun _ => True) M w0 (fun nb => ⟨nb, true, row (List.replicate k (.int .i64 x)) 3⟩ :: H)) := by
 refine calls_of_W (vs := [.int .i64 x, ptr kb]) Tryz.func106 rfl Tryz.ntmps106 (Nat.le_of_ble_eq_true rfl) hst.fromHere ?_
 simp only [argL]
 repeat' (first | (apply gL; first | (apply Wl.ev rfl rfl; exact Zhk) | (refine lC 7 107 ?_; refine wl_callS rfl rfl has107 rfl (fun w hs => repeat_ok hs (List.Mem.head _) hk) ?_; intro nb hnb; clear hnb) | apply Wl.nil | (apply wl_buildSlice rfl rfl (slT rfl) (szT rfl) (zeroT rfl) rfl Zf6 rfl; exact Zt; intro b)) | (apply gQ; first | (apply Wq.ev rfl rfl; exact Zhk)) | (apply lW; first | apply W.seq | apply W.region | (refine Zba ?_; intro w hs)))
 all_goals first | exact GivesS.of hst hs nb trivial rfl Ze | contradiction | exact Zy
def wsV (ws : List Nat) : List Value := ws.map fun w => .int .i64 (w : Nat)
theorem own_rep {k w nb : Nat} (hk : k ≤ 1000000) : ownOk (List.replicate k w).length 1 (wsV (List.replicate k w)) (some (nb, k, (List.replicate k (Value.int .i64 (w : Nat))).toArray)) := by
 rw [List.length_replicate]
 refine ⟨Nat.le_refl _, by simp only [maxLen]; omega, by simp, ?_, by unfold wsV; simp⟩
 unfold wsV
 simp
theorem own_lit {ws : List Nat} {nb : Nat} (hk : ws.length ≤ 1000000) {n : Nat} (hn : n = ws.length) {xs : List Value} (hx : xs = wsV ws) : ownOk ws.length 1 (wsV ws) (some (nb, n, xs.toArray)) := by
 subst hn hx
 have hl : (wsV ws).length = ws.length := by unfold wsV; rw [List.length_map]
 refine ⟨Nat.le_refl _, by simp only [maxLen]; omega, by simp [hl], ?_, by omega⟩
 dsimp only
 rw [Nat.mul_one, ← hl, List.take_length]
theorem own_pre {ws vs : List Nat} {nb n : Nat} (hn : n = (ws ++ vs).length) (hk : n ≤ 1000000) {xs : List Value} (hx : xs = wsV (ws ++ vs)) : ownOk ws.length 1 (wsV ws) (some (nb, n, xs.toArray)) := by
 subst hn hx
 have hl : ∀ ws, (wsV ws).length = ws.length := fun ws => by unfold wsV; rw [List.length_map]
 refine ⟨by simp, by simp only [maxLen]; omega, by simp [hl], ?_, by rw [hl]; omega⟩
 dsimp only
 have : wsV (ws ++ vs) = wsV ws ++ wsV vs := by unfold wsV; rw [List.map_append]
 rw [this, Nat.mul_one, ← hl ws, List.take_left' rfl]
def KindR (kd : Int) (k : Nat) (M : List Nat) (w0 : World) (H : List Ent) : Ending → World → Prop :=
 GivesS (fun x : Nat × Ow => .tuple #[ownV x.1 x.2, .bool (kindsK kd k).isSome]) (fun x => ∀ ws, kindsK kd k = some ws → x.1 = ws.length ∧ ownOk ws.length 1 (wsV ws) x.2) M w0 (fun x => ownH 3 x.2 ++ H)
theorem KindR.of {kd : Int} {k : Nat} {M : List Nat} {w0 w w' : World} {H H1 : List Ent} (hst : St M w0 w H) (hs : St (wrs H) w w' H1) {n : Nat} {o : Ow} {b : Bool} (hb : b = (kindsK kd k).isSome) (hφ : ∀ ws, kindsK kd k = some ws → n = ws.length ∧ ownOk ws.length 1 (wsV ws) o) (hh : SubH (ownH 3 o ++ H) H1) {v : Value} (hv : v = .tuple #[ownV n o, .bool b]) :
  KindR kd k M w0 H (.returned v) w' := GivesS.of hst hs (n, o) hφ Zew hh
abbrev ndM (kd : Int) (ty tx : List UInt8) (nm : Int) (kv : Value) (pl : Int) : List Value := [.int .i64 kd, st ty, st tx, .int .i32 nm, kv, .int .i64 pl]
section
variable {M : List Nat} {w0 w : World} {H : List Ent} {kd nm pl : Int} {ty tx : List UInt8} {p : Option Addr} {k c : Nat}
theorem kinds_all (hst : St M w0 w H) (hk : k ≤ 1000000) {x : Nat} (hx : kindsK kd k = some (List.replicate k x)) (hkd : (kd = 1 ∧ x = 0) ∨ (kd = 6 ∧ x = 4) ∨ (kd = 17 ∧ x = 5)) :
  Calls Tryz.prog 69 #[.agg (ndM kd ty tx nm (.slice p k c) pl).toArray] w (KindR kd k M w0 H) := by
 refine calls_of_W (vs := [.agg (ndM kd ty tx nm (.slice p k c) pl).toArray]) Tryz.func69 rfl Tryz.ntmps69 (Nat.le_of_ble_eq_true rfl) hst.fromHere ?_
 simp only [argL]
 rcases hkd with ⟨rfl, rfl⟩ | ⟨rfl, rfl⟩ | ⟨rfl, rfl⟩
 all_goals (
  repeat' (first | (apply gL; first | (apply Wl.ev rfl rfl; exact Zu) | (refine lB 1 ?_; refine wl_box rfl rfl rfl rfl ?_; intro b1) | (refine lA 4 ?_; refine wl_alloc rfl rfl (zeroT rfl) ?_; intro b4) | (refine lV _ ?_; refine wl_callG rfl rfl has106 rfl rfl Zhc ?_; intro nb hnb; clear hnb) | apply Wl.nil | (refine Zf9 ?_; try simp only [List.set])) | (apply gQ; first | (apply Wq.ev rfl rfl; exact Zu)) | (apply lW; first | apply W.seq | apply W.region | apply W.block | (refine Zbk ?_) | (refine Zbg ?_) | (refine Zc1 ?_; intro w hs)))
  all_goals first | exact KindR.of hst hs (n := k) (o := some (nb, k, (List.replicate k (Value.int .i64 _)).toArray)) (b := true) (by rw [hx]; rfl) (fun ws h => by rw [hx] at h; cases h; exact ⟨by rw [List.length_replicate], own_rep hk⟩) Ze rfl | contradiction | exact Zy | fail)
theorem isSome_if {α : Type} {q : Prop} [Decidable q] {a : α} : (if q then some a else none).isSome = decide q := by
 by_cases h : q
 ·rw [if_pos h, decide_eq_true h]; rfl
 ·rw [if_neg h, decide_eq_false h]; rfl
theorem kinds_if (hst : St M w0 w H) (hk : k ≤ 1000000) {x : Nat} {q : Prop} [Decidable q] (hx : kindsK kd k = if q then some (List.replicate k x) else none)
  (hkd : (kd = 2 ∧ x = 1 ∧ (q ↔ 0 < k)) ∨ (kd = 3 ∧ x = 5 ∧ (q ↔ k ≤ 1)) ∨ (kd = 9 ∧ x = 5 ∧ (q ↔ k ≤ 1)) ∨ (kd = 11 ∧ x = 5 ∧ (q ↔ k = 1)) ∨ (kd = 16 ∧ x = 5 ∧ (q ↔ k = 1)) ∨ (kd = 18 ∧ x = 5 ∧ (q ↔ k = 1)) ∨ (kd = 13 ∧ x = 5 ∧ (q ↔ k = 2)) ∨ (kd = 15 ∧ x = 5 ∧ (q ↔ k = 2)) ∨ (kd = 14 ∧ x = 5 ∧ (q ↔ k = 3))) :
  Calls Tryz.prog 69 #[.agg (ndM kd ty tx nm (.slice p k c) pl).toArray] w (KindR kd k M w0 H) := by
 refine calls_of_W (vs := [.agg (ndM kd ty tx nm (.slice p k c) pl).toArray]) Tryz.func69 rfl Tryz.ntmps69 (Nat.le_of_ble_eq_true rfl) hst.fromHere ?_
 simp only [argL]
 rcases hkd with ⟨rfl, rfl, hq⟩ | ⟨rfl, rfl, hq⟩ | ⟨rfl, rfl, hq⟩ | ⟨rfl, rfl, hq⟩ | ⟨rfl, rfl, hq⟩ | ⟨rfl, rfl, hq⟩ | ⟨rfl, rfl, hq⟩ | ⟨rfl, rfl, hq⟩ | ⟨rfl, rfl, hq⟩
 all_goals (
  repeat' (first | (apply gL; first | (apply Wl.ev rfl rfl; exact Zu) | (refine lB 1 ?_; refine wl_box rfl rfl rfl rfl ?_; intro b1) | (refine lA 4 ?_; refine wl_alloc rfl rfl (zeroT rfl) ?_; intro b4) | (refine lV _ ?_; refine wl_callG rfl rfl has106 rfl rfl Zhc ?_; intro nb hnb; clear hnb) | apply Wl.nil | (refine Zf9 ?_; try simp only [List.set])) | (apply gQ; first | (apply Wq.ev rfl rfl; exact Zu)) | (apply lW; first | apply W.seq | ((show W _ _ _ _ _ _ (.inl (.region _ _ true) :: _) _ _); first | (refine W.regionM [1] [(⟨b4, true, row [.int .i64 (k : Nat)] 3⟩ : Ent)] [(⟨b4, true, row [.int .i64 (k : Nat)] 3⟩ : Ent)] mixed ?_)) | apply W.region | apply W.block | apply W.skip | (refine Zbk ?_) | (refine Zbg ?_) | (refine Zc1 ?_; intro w hs)) | ((show Wm _ _ _ _ _ _ _ _ _ _ _ _ _ _ _ _); first | ((refine Zgg ?_)) | (refine Zgq ?_) | (refine Zgs ?_) | (refine Zhs ?_) | (refine Zlo ?_) | (refine Zky ?_) | ((fail_if_success (refine Zbn ?_)); (refine Zgc ?_ ?_ <;> (intro h; try exact Za))) | ((fail_if_success (refine Zbn ?_)); (refine Zga ?_ ?_ <;> (intro h; try exact Za))) | apply Wm.next) | apply AllO.nil | apply AllO.cons | (refine Or.inl Zk) | ((show _ ∨ Wl _ _ _ _ _ _ _ _ _ _); apply Or.inr) | (refine Zgt ?_))
  all_goals first | exact KindR.of hst hs (n := k) (o := some (nb, k, (List.replicate k (Value.int .i64 _)).toArray)) (by rw [hx, isSome_if]; exact decide_eq_decide.2 (Iff.trans Zf7 hq.symm)) (fun ws h => by rw [hx] at h; split at h <;> cases h; exact ⟨by rw [List.length_replicate], own_rep hk⟩) Ze rfl | contradiction | exact Zy | fail)
theorem rep_set {k x y : Nat} (hk : 0 < k) : (List.replicate k (Value.int .i64 (x : Nat))).set (k - 1) (.int .i64 (y : Nat)) = wsV (List.replicate (k - 1) x ++ [y]) := by
 unfold wsV
 rw [List.map_append, List.map_replicate]
 obtain ⟨j, rfl⟩ : ∃ j, k = j + 1 := ⟨k - 1, by omega⟩
 rw [Nat.add_sub_cancel, List.replicate_succ']
 rw [List.set_append_right _ _ Zgh, List.length_replicate, Nat.sub_self]
 rfl
theorem rep_set4 {k : Nat} (hk : 0 < k) : (List.replicate k (Value.int .i64 2)).set (k - 1) (.int .i64 3) = wsV (List.replicate (k - 1) 2 ++ [3]) := rep_set (x := 2) (y := 3) hk
theorem kinds_func (hst : St M w0 w H) (hk : k ≤ 1000000) (hkd : kd = 4) : Calls Tryz.prog 69 #[.agg (ndM kd ty tx nm (.slice p k c) pl).toArray] w (KindR kd k M w0 H) := by
 refine calls_of_W (vs := [.agg (ndM kd ty tx nm (.slice p k c) pl).toArray]) Tryz.func69 rfl Tryz.ntmps69 (Nat.le_of_ble_eq_true rfl) hst.fromHere ?_
 simp only [argL]
 subst hkd
 by_cases h0 : k = 0
 ·have hx : kindsK 4 k = none := by unfold kindsK; rw [h0]; rfl
  have hn : ((k : Nat) : Int) = 0 := by omega
  repeat' (first | (apply gL; first | (apply Wl.ev rfl rfl; exact Zu) | (refine lB 1 ?_; refine wl_box rfl rfl rfl rfl ?_; intro b1) | (refine lA 4 ?_; refine wl_alloc rfl rfl (zeroT rfl) ?_; intro b4) | apply Wl.nil | (refine Zf9 ?_; try simp only [List.set])) | (apply gQ; first | (apply Wq.ev rfl rfl; exact Zu)) | (apply lW; first | apply W.seq | apply W.region | apply W.block | (refine Zbk ?_) | (refine Zbg ?_) | (refine Zz ?_ ?_ <;> (intro h; try exact Za)) | (refine Zc1 ?_; intro w hs)))
  all_goals first | exact KindR.of hst hs (n := 0) (o := none) (b := false) (by rw [hx]; rfl) (fun ws h => by rw [hx] at h; cases h) Ze rfl | contradiction | exact Zy
 ·have hk0 : 0 < k := by omega
  have hx : kindsK 4 k = some (List.replicate (k - 1) 2 ++ [3]) := by
   unfold kindsK
   rw [if_neg Zf6, if_neg Zf6, if_neg Zf6, if_pos rfl, if_neg h0]
  repeat' (first | (apply gL; first | (apply Wl.ev rfl rfl; exact Zu) | (refine lB 1 ?_; refine wl_box rfl rfl rfl rfl ?_; intro b1) | (refine lA 4 ?_; refine wl_alloc rfl rfl (zeroT rfl) ?_; intro b4) | (refine lV _ ?_; refine wl_callG rfl rfl has106 rfl rfl Zhc ?_; intro nb hnb; clear hnb) | ((show Wl _ _ _ _ _ _ _ (⟨none, .store _ (.tmp 39) _, _, _, _, _⟩ :: _) _ _); refine wl_store1 rfl rfl rfl rfl (szT rfl) Zf (by rw [List.length_replicate]; omega) ?_; rw [show 0 + ((k : Int) - 1).toNat * 1 = k - 1 by omega, rep_set4 hk0]) | apply Wl.nil | (refine Zf9 ?_; try simp only [List.set])) | (apply gQ; first | (apply Wq.ev rfl rfl; exact Zu)) | (apply lW; first | apply W.seq | apply W.region | apply W.block | apply W.skip | (refine Zbk ?_) | (refine Zbg ?_) | (refine Zz ?_ ?_ <;> (intro h; try exact Za)) | (refine Zc1 ?_; intro w hs)))
  all_goals first | exact KindR.of hst hs (n := k) (o := some (nb, k, (wsV (List.replicate (k - 1) 2 ++ [3])).toArray)) (b := true) (by rw [hx]; rfl) (fun ws h => by rw [hx] at h; cases h; exact ⟨by simp; omega, own_lit Zja Zja rfl⟩) Ze rfl | contradiction | exact Zy
theorem kinds_ifs (hst : St M w0 w H) (hk : k ≤ 1000000) (hkd : kd = 7) : Calls Tryz.prog 69 #[.agg (ndM kd ty tx nm (.slice p k c) pl).toArray] w (KindR kd k M w0 H) := by
 refine calls_of_W (vs := [.agg (ndM kd ty tx nm (.slice p k c) pl).toArray]) Tryz.func69 rfl Tryz.ntmps69 (Nat.le_of_ble_eq_true rfl) hst.fromHere ?_
 simp only [argL]
 subst hkd
 have hx : kindsK 7 k = if k = 2 ∨ k = 3 then some ([5, 4, 4].take k) else none := by
  unfold kindsK
  rw [if_neg Zf6, if_neg Zf6, if_neg Zf6, if_neg Zf6, if_neg Zf6, if_pos rfl]
 obtain ⟨m, hm⟩ : ∃ m : Nat, min ((k : Nat) : Int) 3 = m := ⟨min k 3, by omega⟩
 have h23 : k = 2 ∧ kindsK 7 k = some [5, 4] ∨ k = 3 ∧ kindsK 7 k = some [5, 4, 4] ∨ (¬k = 2 ∧ ¬k = 3) ∧ kindsK 7 k = none := by
  by_cases h2 : k = 2
  ·exact .inl ⟨h2, by rw [hx, if_pos (.inl h2), h2]; rfl⟩
  ·by_cases h3 : k = 3
   ·exact .inr (.inl ⟨h3, by rw [hx, if_pos (.inr h3), h3]; rfl⟩)
   ·exact .inr (.inr ⟨⟨h2, h3⟩, by rw [hx, if_neg Zf7]⟩)
 clear hx
 rcases h23 with ⟨h2, hx⟩ | ⟨h3, hx⟩ | ⟨h2, hx⟩
 case inl =>
  repeat' (first | (apply gL; first | (apply Wl.ev rfl rfl; exact Zbb) | (refine lB 1 ?_; refine wl_box rfl rfl rfl rfl ?_; intro b1) | (refine lA 4 ?_; refine wl_alloc rfl rfl (zeroT rfl) ?_; intro b4) | ((show Wl _ _ _ _ _ _ _ (⟨some _, .buildSlice _ _ _, _, _, _, _⟩ :: _) _ _); apply wl_buildSlice rfl rfl (slT rfl) (szT rfl) (zeroT rfl) rfl Zf6 rfl; exact Zt; intro nb) | apply Wl.nil | (refine Zf9 ?_; try simp only [List.set])) | (apply gQ; first | (apply Wq.ev rfl rfl; exact Zbb)) | (apply lW; first | apply W.seq | ((show W _ _ _ _ _ _ (.inl (.region _ _ true) :: _) _ _); first | (refine Zc5 ?_)) | apply W.region | apply W.block | (refine Zbk ?_) | (refine Zbg ?_) | (refine Zc1 ?_; intro w hs)) | ((show Wm _ _ _ _ _ _ _ _ _ _ _ _ _ _ _ _); first | ((refine Zgg ?_)) | (refine Zgq ?_) | (refine Zgs ?_) | (refine Zhs ?_) | (refine Wm.take1 Zj rfl Zj Zk Zf6 rfl rfl Zbb Zb Zb ?_) | (refine Zme ?_) | ((fail_if_success (refine Zbn ?_)); (refine Zgc ?_ ?_ <;> (intro h; try exact Za))) | ((fail_if_success (refine Zbn ?_)); (refine Zga ?_ ?_ <;> (intro h; try exact Za))) | apply Wm.next) | apply AllO.nil | apply AllO.cons | (refine Or.inl Zk) | ((show _ ∨ Wl _ _ _ _ _ _ _ _ _ _); apply Or.inr) | (refine Zgt ?_))
  all_goals first | exact KindR.of hst hs (n := m) (o := some (nb, 3, [Value.int .i64 5, .int .i64 4, .int .i64 4].toArray)) Zei (fun ws h => by rw [hx] at h; cases h; exact ⟨by show m = 2; omega, own_pre (ws := [5, 4]) (vs := [4]) rfl Zf6 rfl⟩) Ze rfl | contradiction | exact Zy
 case inr.inl =>
  repeat' (first | (apply gL; first | (apply Wl.ev rfl rfl; exact Zbb) | (refine lB 1 ?_; refine wl_box rfl rfl rfl rfl ?_; intro b1) | (refine lA 4 ?_; refine wl_alloc rfl rfl (zeroT rfl) ?_; intro b4) | ((show Wl _ _ _ _ _ _ _ (⟨some _, .buildSlice _ _ _, _, _, _, _⟩ :: _) _ _); apply wl_buildSlice rfl rfl (slT rfl) (szT rfl) (zeroT rfl) rfl Zf6 rfl; exact Zt; intro nb) | apply Wl.nil | (refine Zf9 ?_; try simp only [List.set])) | (apply gQ; first | (apply Wq.ev rfl rfl; exact Zbb)) | (apply lW; first | apply W.seq | ((show W _ _ _ _ _ _ (.inl (.region _ _ true) :: _) _ _); first | (refine Zc5 ?_)) | apply W.region | apply W.block | (refine Zbk ?_) | (refine Zbg ?_) | (refine Zc1 ?_; intro w hs)) | ((show Wm _ _ _ _ _ _ _ _ _ _ _ _ _ _ _ _); first | ((refine Zgg ?_)) | (refine Zgq ?_) | (refine Zgs ?_) | (refine Zhs ?_) | (refine Wm.take1 Zj rfl Zj Zk Zf6 rfl rfl Zbb Zb Zb ?_) | (refine Zme ?_) | ((fail_if_success (refine Zbn ?_)); (refine Zgc ?_ ?_ <;> (intro h; try exact Za))) | ((fail_if_success (refine Zbn ?_)); (refine Zga ?_ ?_ <;> (intro h; try exact Za))) | apply Wm.next) | apply AllO.nil | apply AllO.cons | (refine Or.inl Zk) | ((show _ ∨ Wl _ _ _ _ _ _ _ _ _ _); apply Or.inr) | (refine Zgt ?_))
  all_goals first | exact KindR.of hst hs (n := m) (o := some (nb, 3, [Value.int .i64 5, .int .i64 4, .int .i64 4].toArray)) Zei (fun ws h => by rw [hx] at h; cases h; exact ⟨by show m = 3; omega, own_pre (ws := [5, 4, 4]) (vs := []) rfl Zf6 rfl⟩) Ze rfl | contradiction | exact Zy
 case inr.inr =>
  repeat' (first | (apply gL; first | (apply Wl.ev rfl rfl; exact Zbb) | (refine lB 1 ?_; refine wl_box rfl rfl rfl rfl ?_; intro b1) | (refine lA 4 ?_; refine wl_alloc rfl rfl (zeroT rfl) ?_; intro b4) | ((show Wl _ _ _ _ _ _ _ (⟨some _, .buildSlice _ _ _, _, _, _, _⟩ :: _) _ _); apply wl_buildSlice rfl rfl (slT rfl) (szT rfl) (zeroT rfl) rfl Zf6 rfl; exact Zt; intro nb) | apply Wl.nil | (refine Zf9 ?_; try simp only [List.set])) | (apply gQ; first | (apply Wq.ev rfl rfl; exact Zbb)) | (apply lW; first | apply W.seq | ((show W _ _ _ _ _ _ (.inl (.region _ _ true) :: _) _ _); first | (refine Zc5 ?_)) | apply W.region | apply W.block | (refine Zbk ?_) | (refine Zbg ?_) | (refine Zc1 ?_; intro w hs)) | ((show Wm _ _ _ _ _ _ _ _ _ _ _ _ _ _ _ _); first | ((refine Zgg ?_)) | (refine Zgq ?_) | (refine Zgs ?_) | (refine Zhs ?_) | (refine Wm.take1 Zj rfl Zj Zk Zf6 rfl rfl Zbb Zb Zb ?_) | (refine Zme ?_) | ((fail_if_success (refine Zbn ?_)); (refine Zgc ?_ ?_ <;> (intro h; try exact Za))) | ((fail_if_success (refine Zbn ?_)); (refine Zga ?_ ?_ <;> (intro h; try exact Za))) | apply Wm.next) | apply AllO.nil | apply AllO.cons | (refine Or.inl Zk) | ((show _ ∨ Wl _ _ _ _ _ _ _ _ _ _); apply Or.inr) | (refine Zgt ?_))
  all_goals first | exact KindR.of hst hs (n := m) (o := some (nb, 3, [Value.int .i64 5, .int .i64 4, .int .i64 4].toArray)) Zei (fun ws h => by rw [hx] at h; cases h) Ze rfl | contradiction | exact Zy
theorem kinds_for (hst : St M w0 w H) (_ : k ≤ 1000000) (hkd : kd = 8) : Calls Tryz.prog 69 #[.agg (ndM kd ty tx nm (.slice p k c) pl).toArray] w (KindR kd k M w0 H) := by
 refine calls_of_W (vs := [.agg (ndM kd ty tx nm (.slice p k c) pl).toArray]) Tryz.func69 rfl Tryz.ntmps69 (Nat.le_of_ble_eq_true rfl) hst.fromHere ?_
 simp only [argL]
 subst hkd
 have hx : kindsK 8 k = if k = 3 then some [6, 6, 4] else none := by
  unfold kindsK
  rw [if_neg Zf6, if_neg Zf6, if_neg Zf6, if_neg Zf6, if_neg Zf6, if_neg Zf6, if_pos rfl]
 repeat' (first | (apply gL; first | (apply Wl.ev rfl rfl; exact Zu) | (refine lB 1 ?_; refine wl_box rfl rfl rfl rfl ?_; intro b1) | (refine lA 4 ?_; refine wl_alloc rfl rfl (zeroT rfl) ?_; intro b4) | ((show Wl _ _ _ _ _ _ _ (⟨some _, .buildSlice _ _ _, _, _, _, _⟩ :: _) _ _); apply wl_buildSlice rfl rfl (slT rfl) (szT rfl) (zeroT rfl) rfl Zf6 rfl; exact Zt; intro nb) | apply Wl.nil | (refine Zf9 ?_; try simp only [List.set])) | (apply gQ; first | (apply Wq.ev rfl rfl; exact Zu)) | (apply lW; first | apply W.seq | ((show W _ _ _ _ _ _ (.inl (.region _ _ true) :: _) _ _); first | (refine Zc5 ?_)) | apply W.region | apply W.block | (refine Zbk ?_) | (refine Zbg ?_) | (refine Zc1 ?_; intro w hs)) | ((show Wm _ _ _ _ _ _ _ _ _ _ _ _ _ _ _ _); first | ((refine Zgg ?_)) | (refine Zgq ?_) | (refine Zgs ?_) | (refine Zhs ?_) | (refine Zlo ?_) | (refine Zky ?_) | ((fail_if_success (refine Zbn ?_)); (refine Zgc ?_ ?_ <;> (intro h; try exact Za))) | ((fail_if_success (refine Zbn ?_)); (refine Zga ?_ ?_ <;> (intro h; try exact Za))) | apply Wm.next) | apply AllO.nil | apply AllO.cons | (refine Or.inl Zk) | ((show _ ∨ Wl _ _ _ _ _ _ _ _ _ _); apply Or.inr) | (refine Zgt ?_))
 all_goals first | exact KindR.of hst hs (n := 3) (o := some (nb, 3, [Value.int .i64 6, .int .i64 6, .int .i64 4].toArray)) (by rw [hx, isSome_if]; exact decide_eq_decide.2 Zf7) (fun ws h => by rw [hx] at h; split at h <;> cases h; exact ⟨rfl, own_lit Zf6 rfl rfl⟩) Ze rfl | contradiction | exact Zy
theorem kinds_none (hst : St M w0 w H) (_hk : k ≤ 1000000) (hkd : ∀ j, j ∈ [1, 2, 3, 4, 6, 7, 8, 9, 11, 13, 14, 15, 16, 17, 18] → ¬kd = j) : Calls Tryz.prog 69 #[.agg (ndM kd ty tx nm (.slice p k c) pl).toArray] w (KindR kd k M w0 H) := by
 refine calls_of_W (vs := [.agg (ndM kd ty tx nm (.slice p k c) pl).toArray]) Tryz.func69 rfl Tryz.ntmps69 (Nat.le_of_ble_eq_true rfl) hst.fromHere ?_
 simp only [argL]
 simp only [List.mem_cons, List.not_mem_nil, or_false, forall_eq_or_imp, forall_eq] at hkd
 obtain ⟨n1, n2, n3, n4, n6, n7, n8, n9, n11, n13, n14, n15, n16, n17, n18⟩ := hkd
 have hx : kindsK kd k = if k = 0 then some [] else none := by
  unfold kindsK
  rw [if_neg n1, if_neg n2, if_neg Zf7, if_neg n4, if_neg n6, if_neg n7, if_neg n8, if_neg Zf7, if_neg Zf7, if_neg n14, if_neg n17]
 repeat' (first | (apply gL; first | (apply Wl.ev rfl rfl; exact Zu) | (refine lB 1 ?_; refine wl_box rfl rfl rfl rfl ?_; intro b1) | (refine lA 4 ?_; refine wl_alloc rfl rfl (zeroT rfl) ?_; intro b4) | apply Wl.nil | (refine Zf9 ?_; try simp only [List.set])) | (apply gQ; first | (apply Wq.ev rfl rfl; exact Zu)) | (apply lW; first | apply W.seq | ((show W _ _ _ _ _ _ (.inl (.region _ _ true) :: _) _ _); first | (refine W.regionM [] [(⟨b4, true, row [.int .i64 (k : Nat)] 3⟩ : Ent)] [(⟨b4, true, row [.int .i64 (k : Nat)] 3⟩ : Ent)] mixed ?_)) | apply W.region | apply W.block | apply W.blk | apply W.skip | (refine Zz ?_ ?_ <;> (intro h; try exact Za)) | (refine Zc1 ?_; intro w hs)) | ((show Wm _ _ _ _ _ _ _ _ _ _ _ _ _ _ _ _); first | ((refine Zgg ?_)) | (refine Zgq ?_) | (refine Zgs ?_) | (refine Zhs ?_) | (refine Zlo ?_) | (refine Zky ?_) | ((fail_if_success (refine Zbn ?_)); (refine Zgc ?_ ?_ <;> (intro h; try exact Za))) | ((fail_if_success (refine Zbn ?_)); (refine Zga ?_ ?_ <;> (intro h; try exact Za))) | apply Wm.next) | apply AllO.nil | apply AllO.cons | (refine Or.inl Zk) | ((show _ ∨ Wl _ _ _ _ _ _ _ _ _ _); apply Or.inr) | (refine Zgt ?_))
 all_goals first | exact KindR.of hst hs (n := 0) (o := none) (by rw [hx, isSome_if]; exact decide_eq_decide.2 Zf7) (fun ws h => by rw [hx] at h; split at h <;> cases h; exact ⟨rfl, rfl, rfl⟩) Ze rfl | contradiction | exact Zy
theorem kinds_ok (hst : St M w0 w H) (hk : k ≤ 1000000) : Calls Tryz.prog 69 #[.agg (ndM kd ty tx nm (.slice p k c) pl).toArray] w (KindR kd k M w0 H) := by
 by_cases h1 : kd = 1
 ·exact kinds_all hst hk (x := 0) (by subst h1; rfl) (.inl ⟨h1, rfl⟩)
 by_cases h2 : kd = 2
 ·exact kinds_if hst hk (x := 1) (q := 0 < k) (by subst h2; unfold kindsK; rw [if_neg Zf6, if_pos rfl]) (.inl ⟨h2, rfl, Iff.rfl⟩)
 by_cases h3 : kd = 3
 ·exact kinds_if hst hk (x := 5) (q := k ≤ 1) (by subst h3; unfold kindsK; rw [if_neg Zf6, if_neg Zf6, if_pos (.inl rfl)]) (.inr (.inl ⟨h3, rfl, Iff.rfl⟩))
 by_cases h9 : kd = 9
 ·exact kinds_if hst hk (x := 5) (q := k ≤ 1) (by subst h9; unfold kindsK; rw [if_neg Zf6, if_neg Zf6, if_pos (.inr rfl)]) (.inr (.inr (.inl ⟨h9, rfl, Iff.rfl⟩)))
 by_cases h4 : kd = 4
 ·exact kinds_func hst hk h4
 by_cases h6 : kd = 6
 ·exact kinds_all hst hk (x := 4) (by subst h6; rfl) (.inr (.inl ⟨h6, rfl⟩))
 by_cases h7 : kd = 7
 ·exact kinds_ifs hst hk h7
 by_cases h8 : kd = 8
 ·exact kinds_for hst hk h8
 by_cases h11 : kd = 11
 ·exact kinds_if hst hk (x := 5) (q := k = 1) (by subst h11; rfl) (.inr (.inr (.inr (.inl ⟨h11, rfl, Iff.rfl⟩))))
 by_cases h16 : kd = 16
 ·exact kinds_if hst hk (x := 5) (q := k = 1) (by subst h16; rfl) (.inr (.inr (.inr (.inr (.inl ⟨h16, rfl, Iff.rfl⟩)))))
 by_cases h18 : kd = 18
 ·exact kinds_if hst hk (x := 5) (q := k = 1) (by subst h18; rfl) (.inr (.inr (.inr (.inr (.inr (.inl ⟨h18, rfl, Iff.rfl⟩))))))
 by_cases h13 : kd = 13
 ·exact kinds_if hst hk (x := 5) (q := k = 2) (by subst h13; rfl) (.inr (.inr (.inr (.inr (.inr (.inr (.inl ⟨h13, rfl, Iff.rfl⟩)))))))
 by_cases h15 : kd = 15
 ·exact kinds_if hst hk (x := 5) (q := k = 2) (by subst h15; rfl) (.inr (.inr (.inr (.inr (.inr (.inr (.inr (.inl ⟨h15, rfl, Iff.rfl⟩))))))))
 by_cases h14 : kd = 14
 ·exact kinds_if hst hk (x := 5) (q := k = 3) (by subst h14; rfl) (.inr (.inr (.inr (.inr (.inr (.inr (.inr (.inr ⟨h14, rfl, Iff.rfl⟩))))))))
 by_cases h17 : kd = 17
 ·exact kinds_all hst hk (x := 5) (by subst h17; rfl) (.inr (.inr ⟨h17, rfl⟩))
 exact kinds_none hst hk (by simp only [List.mem_cons, List.not_mem_nil, or_false, forall_eq_or_imp, forall_eq]; exact ⟨h1, h2, h3, h4, h6, h7, h8, h9, h11, h13, h14, h15, h16, h17, h18⟩)
end
end Go.Proofs.YtbinaeemcidicaaGreatDoor
namespace Go.Proofs.YtbinaeemcidicaaGreatDoor
open Go.PB Go.RowKit
attribute [local irreducible] Go.Calls
section
variable {kd nm pl : Int} {ty tx : List UInt8} {kv : Value}
theorem saidF_ok {M : List Nat} {w0 w : World} {H : List Ent} {nb : Nat} {wr : Bool} {v : Value} {l : List (List UInt8)} (hst : St M w0 w H) (hm : (⟨nb, wr, row (ndM kd ty tx nm kv pl) 47⟩ : Ent) ∈ H) (hv : RdX H v l.length (strV l)) (hl : l.length ≤ 1000000) :
  Calls Tryz.prog 111 #[v, ptr nb] w (Give (.bool (l.contains tx)) w) := by
 refine give_of_W (vs := [v, ptr nb]) Tryz.func111 rfl Tryz.ntmps111 (Nat.le_of_ble_eq_true rfl) hst.reads ?_
 simp only [argL]
 have hv' := hv.ro
 have hm' := mem_ro hm
 have hc : ∀ w', St [] w w' (ro H) → Calls Tryz.prog 92 #[v, st tx] w' (Give (.bool (l.contains tx)) w') := fun w' hs => containsS_ok hs hv' hl
 obtain ⟨b, hb⟩ : ∃ b, l.contains tx = b := ⟨_, rfl⟩
 rw [hb] at hc ⊢
 repeat' (first | (apply gL; first | (apply Wl.ev rfl rfl; (focus (first | exact ev_load (agT rfl) rfl hm' rfl | exact Zev))) | (refine lD 92 ?_; refine wl_call0 rfl rfl has92 rfl (fun w hs => hc w hs) ?_) | apply Wl.nil) | (apply gQ; first | (apply Wq.ev rfl rfl; (focus (first | exact ev_load (agT rfl) rfl hm' rfl | exact Zev)))) | (apply lW; first | apply W.seq | apply W.region | (refine Zba ?_; intro w hs)))
 all_goals first | exact ret_eq hs rfl | contradiction
abbrev levA (tx : List UInt8) : Bool := [levW 0, levW 1, levW 2, levW 3, levW 4, levW 5].any fun s => s.contains tx
theorem levA_iff : levA tx = true ↔ ∃ k, k < 6 ∧ (levW k).contains tx = true := by
 unfold levA
 simp only [List.any_cons, List.any_nil, Bool.or_false, Bool.or_eq_true]
 constructor
 ·rintro (h | h | h | h | h | h)
  ·exact ⟨0, by decide, h⟩
  ·exact ⟨1, by decide, h⟩
  ·exact ⟨2, by decide, h⟩
  ·exact ⟨3, by decide, h⟩
  ·exact ⟨4, by decide, h⟩
  ·exact ⟨5, by decide, h⟩
 ·rintro ⟨k, hk, h⟩
  have : k = 0 ∨ k = 1 ∨ k = 2 ∨ k = 3 ∨ k = 4 ∨ k = 5 := by omega
  rcases this with rfl | rfl | rfl | rfl | rfl | rfl
  ·exact .inl h
  ·exact .inr (.inl h)
  ·exact .inr (.inr (.inl h))
  ·exact .inr (.inr (.inr (.inl h)))
  ·exact .inr (.inr (.inr (.inr (.inl h))))
  ·exact .inr (.inr (.inr (.inr (.inr h))))
theorem indexL_ok {M : List Nat} {w0 w : World} {H : List Ent} {nb tb : Nat} {q : Nat → Nat} {wr : Bool} (hst : St M w0 w H) (hm : (⟨nb, wr, row (ndM kd ty tx nm kv pl) 47⟩ : Ent) ∈ H) (hL : ∀ e ∈ lvH (tb, q), ∃ wr, (⟨e.b, wr, e.o⟩ : Ent) ∈ H) :
  Calls Tryz.prog 144 #[.slice (some ⟨tb, 0, none⟩) 6 6, fnV 111 [] [ptr nb]] w (GivesS (fun x : Int => .int .i64 x) (fun x => (0 ≤ x ↔ levA tx = true)) M w0 fun _ => H) := by
 refine calls_of_W (vs := [.slice (some ⟨tb, 0, none⟩) 6 6, fnV 111 [] [ptr nb]]) Tryz.func144 rfl Tryz.ntmps144 (Nat.le_of_ble_eq_true rfl) hst.reads ?_
 simp only [argL]
 have htb : (⟨tb, false, row (lvL q) 60⟩ : Ent) ∈ ro H := by obtain ⟨wr, h⟩ := hL _ (List.Mem.head _); exact mem_ro h
 repeat' (first | (apply gL; first | (apply Wl.ev rfl rfl; exact Zev) | apply Wl.nil) | (apply gQ; first | (apply Wq.ev rfl rfl; exact Zev)) | (apply lW; first | apply W.seq | (refine W.loop (X := Nat) (fun j => [(0, .slice (some ⟨tb, 0, none⟩) 6 6), (1, fnV 111 [] [ptr nb]), (7, .int .i64 6), (8, .int .i64 (j : Nat))]) (fun _ => ro H) (fun j => j ≤ 6 ∧ ∀ a, a < j → ¬(levW a).contains tx = true) (fun j => 6 - j) 0 ⟨Nat.zero_le _, fun a h => absurd h (Nat.not_lt_zero _)⟩ Zn (List.Sublist.refl _) ?_) | apply W.region | apply W.block))
 rintro j ⟨hj, hall⟩
 by_cases hlt : j < 6
 ·have g0 : ∀ o, o = 0 + j → (lvL q).toArray[o]? = some (lvS q j) := lv_get hlt
  obtain ⟨r, hr⟩ : ∃ r, (levW j).contains tx = r := ⟨_, rfl⟩
  have hlm : (⟨q j, false, row (strV (levW j)) 9⟩ : Ent) ∈ ro H := by obtain ⟨wr, h⟩ := hL _ (lv_mem (x := (tb, q)) hlt); exact mem_ro h
  have hcf : ∀ w', St [] w w' (ro H) → Calls Tryz.prog 111 ([] ++ [lvS q j] ++ [ptr nb]).toArray w' (Give (.bool r) w') := fun w' hs => by
   rw [← hr]
   exact saidF_ok hs (mem_ro hm) (.inr ⟨q j, 0, _, (strV (levW j)).toArray, 9, (0, 0), false, rfl, hlm, Nat.le_refl _, fun i u hu => by simpa using hu⟩) (lv_len j)
  obtain ⟨lvj, hlv⟩ : ∃ v, lvS q j = v := ⟨_, rfl⟩
  rw [hlv] at g0 hcf
  cases r with
  | false =>
   repeat' (first | (apply gL; first | (apply Wl.ev rfl rfl; exact Zd2) | (refine lV 16 ?_; refine wl_callG (val := fun _ : Unit => .bool false) (φ := fun _ => True) (H' := fun _ => ro H) rfl rfl has111 rfl rfl Zds ?_; intro q0 hq0; clear hq0) | apply Wl.nil) | (apply gQ; first | (apply Wq.ev rfl rfl; exact Zd2)) | (apply lW; first | apply W.seq | apply W.region | apply W.block | apply W.blk | apply W.skip | (refine Zbg ?_) | (refine Zz ?_ ?_ <;> (intro h; try exact Za))))
   all_goals first
    | exact W.again (j + 1) ⟨hlt, fun a h => by by_cases e : a = j; rw [e, hr]; decide; exact hall a Zf7⟩ Zf7 Zn (List.Sublist.refl _)
    | contradiction | exact Zy
  | true =>
   repeat' (first | (apply gL; first | (apply Wl.ev rfl rfl; exact Zd2) | (refine lV 16 ?_; refine wl_callG (val := fun _ : Unit => .bool true) (φ := fun _ => True) (H' := fun _ => ro H) rfl rfl has111 rfl rfl Zds ?_; intro q0 hq0; clear hq0) | apply Wl.nil) | (apply gQ; first | (apply Wq.ev rfl rfl; exact Zd2)) | (apply lW; first | apply W.seq | apply W.region | apply W.block | apply W.skip | (refine Zbk ?_) | (refine Zz ?_ ?_ <;> (intro h; try exact Za)) | (refine Zba ?_; intro w hs)))
   all_goals first
    | exact ⟨_, ⟨fun _ => levA_iff.2 ⟨j, hlt, hr⟩, fun _ => by omega⟩, rfl, hst.ext (ret_eq (v := .bool true) hs rfl).2⟩
    | contradiction | exact Zy
 ·obtain rfl : j = 6 := by omega
  repeat' (first | (apply gL; first | (apply Wl.ev rfl rfl; exact Zev) | apply Wl.nil) | (apply gQ; first | (apply Wq.ev rfl rfl; exact Zev)) | (apply lW; first | apply W.seq | apply W.region | (refine Zcm ?_) | (refine Zbg ?_) | (refine Zba ?_; intro w hs)))
  all_goals first | exact ⟨_, ⟨fun h => absurd h Zf6, fun h => by obtain ⟨k, hk, h⟩ := levA_iff.1 h; exact absurd h (hall k hk)⟩, rfl, hst.ext (ret_eq (v := .bool true) hs rfl).2⟩ | contradiction | exact Zy
theorem contL_ok {M : List Nat} {w0 w : World} {H : List Ent} {nb tb : Nat} {q : Nat → Nat} {wr : Bool} (hst : St M w0 w H) (hm : (⟨nb, wr, row (ndM kd ty tx nm kv pl) 47⟩ : Ent) ∈ H) (hL : ∀ e ∈ lvH (tb, q), ∃ wr, (⟨e.b, wr, e.o⟩ : Ent) ∈ H) :
  Calls Tryz.prog 109 #[.slice (some ⟨tb, 0, none⟩) 6 6, fnV 111 [] [ptr nb]] w (Give (.bool (levA tx)) w) := by
 refine give_of_W (vs := [.slice (some ⟨tb, 0, none⟩) 6 6, fnV 111 [] [ptr nb]]) Tryz.func109 rfl Tryz.ntmps109 (Nat.le_of_ble_eq_true rfl) hst.reads ?_
 simp only [argL]
 have hL' : ∀ e ∈ lvH (tb, q), ∃ wr, (⟨e.b, wr, e.o⟩ : Ent) ∈ ro H := fun e he => by obtain ⟨wr, h⟩ := hL e he; exact ⟨false, mem_ro h⟩
 repeat' (first | (apply gL; first | (apply Wl.ev rfl rfl; exact Zev) | ((show Wl _ _ _ _ _ _ _ (⟨some 7, .call _, _, _, _, _⟩ :: _) _ _); refine wl_callS rfl rfl has144 rfl (fun w hs => indexL_ok hs (mem_ro hm) hL') ?_; intro x hx) | apply Wl.nil) | (apply gQ; first | (apply Wq.ev rfl rfl; exact Zev)) | (apply lW; first | apply W.seq | apply W.region | (refine Zba ?_; intro w hs)))
 all_goals first | exact ret_eq hs (congrArg Value.bool (by rw [Bool.eq_iff_iff, decide_eq_true_iff]; exact hx))
end
end Go.Proofs.YtbinaeemcidicaaGreatDoor
