/- Walks of functions of this seat, and what they compute: lemmas for the proofs of its statements. No condition. -/
import Derived.Test.YthhfandandfeeaaDoorR1
namespace Go.Proofs.YthhfandandfeeaaDoor
open Go.PB Go.RowKit
attribute [local irreducible] Go.Calls
theorem ixb : IxB Tryd.prog 72 := ⟨_, Tryd.func72, by kernel_rfl, by kernel_rfl, by kernel_rfl, by kernel_rfl⟩
theorem slIndexByte_ok (l : List UInt8) (c : Int) (w : World) : Calls Tryd.prog 63 #[st l, .int .u8 c] w (Give (.int .i64 (Lib.indexByte l c.toNat.toUInt8)) w) := by
  refine give_of_W (vs := [st l, .int .u8 c]) Tryd.func63 rfl Tryd.ntmps63 (Nat.le_of_ble_eq_true rfl) (St.nil w _) ?_
  simp only [argL, Nat.zero_add]
  repeat' (first | ((show Wl _ _ _ _ _ _ _ _ _ _); first | (apply Wl.ev rfl rfl; (focus (first | ((show Ev _ _ _ _ _ _ _ (.move _) _ _); first | exact ev_move rfl) | ((show Ev _ _ _ _ _ _ _ (.assign _) _ _); first | exact ev_assign rfl) | ((show Ev _ _ _ _ _ _ _ (.call _) _ _); first | exact ev_indexByte ixb rfl rfl)))) | apply Wl.nil) | ((show W _ _ _ _ _ _ _ _ _); first | apply W.seq | apply W.region | (refine W.ret1 rfl rfl ?_; intro w hs)))
  exact ret_eq hs rfl
theorem indexByte_ok (l : List UInt8) (c : Int) (w : World) : Calls Tryd.prog 44 #[st l, .int .u8 c] w (Give (.int .i64 (Lib.indexByte l c.toNat.toUInt8)) w) := by
  refine give_of_W (vs := [st l, .int .u8 c]) Tryd.func44 rfl Tryd.ntmps44 (Nat.le_of_ble_eq_true rfl) (St.nil w _) ?_
  simp only [argL, Nat.zero_add]
  repeat' (first | ((show Wl _ _ _ _ _ _ _ _ _ _); first | (apply Wl.ev rfl rfl; (focus (first | ((show Ev _ _ _ _ _ _ _ (.move _) _ _); first | exact ev_move rfl) | ((show Ev _ _ _ _ _ _ _ (.assign _) _ _); first | exact ev_assign rfl)))) | ((show Wl _ _ _ _ _ _ _ (⟨_, .call ⟨.value (.func 63), _, _⟩, _, _, _, _⟩ :: _) _ _); refine wl_call0 rfl rfl has63 rfl (fun w _ => slIndexByte_ok _ _ w) ?_) | apply Wl.nil) | ((show W _ _ _ _ _ _ _ _ _); first | apply W.seq | apply W.region | (refine W.ret1 rfl rfl ?_; intro w hs)))
  exact ret_eq hs rfl
set_option maxRecDepth 100000 in
set_option maxHeartbeats 8000000 in
theorem index1_ok (l : List UInt8) (c : UInt8) (w : World) : Calls Tryd.prog 64 #[st l, st [c]] w (Give (.int .i64 (Lib.indexByte l c)) w) := by
  refine give_of_W (vs := [st l, st [c]]) Tryd.func64 rfl Tryd.ntmps64 (Nat.le_of_ble_eq_true rfl) (St.nil w _) ?_
  simp only [argL, Nat.zero_add]
  repeat' (first | ((show Wl _ _ _ _ _ _ _ _ _ _); first | (apply Wl.ev rfl rfl; (focus (first | ((show Ev _ _ _ _ _ _ _ (.move _) _ _); first | exact ev_move rfl) | ((show Ev _ _ _ _ _ _ _ (.assign _) _ _); first | exact ev_assign rfl) | ((show Ev _ _ _ _ _ _ _ (.pick _ _ _) _ _); first | exact ev_pickF rfl rfl) | ((show Ev _ _ _ _ _ _ _ (.binOp _ _ _ _ _) _ _); first | exact ev_eqi rfl rfl | exact ev_eqs rfl rfl) | ((show Ev _ _ _ _ _ _ _ (.call _) _ _); first | exact ev_len_string (strT rfl) rfl) | ((show Ev _ _ _ _ _ _ _ (.index _ _ _) _ _); first | exact ev_index_string (strT rfl) rfl rfl (by simp))))) | ((show Wl _ _ _ _ _ _ _ (⟨_, .call ⟨.value (.func 63), _, _⟩, _, _, _, _⟩ :: _) _ _); refine wl_call0 rfl rfl has63 rfl (fun w _ => slIndexByte_ok _ _ w) ?_) | apply Wl.nil) | ((show W _ _ _ _ _ _ _ _ _); first | apply W.seq | apply W.region | apply W.block | (refine W.condT rfl ?_) | (refine W.cond rfl ?_ ?_ <;> (intro h; try (exfalso; first | contradiction | omega | exact h rfl | exact h ⟨rfl, rfl⟩ | (simp_all; done)))) | (refine W.ret1 rfl rfl ?_; intro w hs)))
  · subst h
    exact ret_eq hs (by simp [Lib.indexByte])
  · exact ret_eq hs (by simp)
theorem indexByte_le (l : List UInt8) (c : UInt8) : Lib.indexByte l c < l.length ∧ -1 ≤ Lib.indexByte l c := by
  induction l with
  | nil => simp [Lib.indexByte]
  | cons b l ih =>
    simp only [Lib.indexByte, List.length_cons]
    split
    · omega
    · split
      · omega
      · omega
/-- a text's parts ahead of a byte and behind it -/
def cutS (l : List UInt8) (c : UInt8) : List UInt8 × List UInt8 × Bool :=
  if 0 ≤ Lib.indexByte l c then (l.take (Lib.indexByte l c).toNat, l.drop ((Lib.indexByte l c).toNat + 1), true) else (l, [], false)
set_option maxRecDepth 100000 in
set_option maxHeartbeats 8000000 in
theorem slCut_ok (l : List UInt8) (c : UInt8) (hl : l.length < 4611686018427387904) (w : World) : Calls Tryd.prog 87 #[st l, st [c]] w (Give (.tuple #[st (cutS l c).1, st (cutS l c).2.1, .bool (cutS l c).2.2]) w) := by
  refine give_of_W (vs := [st l, st [c]]) Tryd.func87 rfl Tryd.ntmps87 (Nat.le_of_ble_eq_true rfl) (St.nil w _) ?_
  simp only [argL, Nat.zero_add]
  have hb := indexByte_le l c
  repeat' (first | ((show Wl _ _ _ _ _ _ _ _ _ _); first | (apply Wl.ev rfl rfl; (focus (first | ((show Ev _ _ _ _ _ _ _ (.move _) _ _); first | exact ev_move rfl) | ((show Ev _ _ _ _ _ _ _ (.assign _) _ _); first | exact ev_assign rfl) | ((show Ev _ _ _ _ _ _ _ (.binOp _ _ _ _ _) _ _); first | exact ev_add64 (j := 1) rfl rfl (by omega) | exact ev_gei rfl rfl) | ((show Ev _ _ _ _ _ _ _ (.call _) _ _); first | exact ev_len_string (strT rfl) rfl) | ((show Ev _ _ _ _ _ _ _ (.slice _ _ _ _ _) _ _); first | exact ev_slice_string_lo (strT rfl) rfl rfl (by first | omega | (simp; done) | (simp; omega) | (simp [*]; done) | (simp [*]; omega) | (simp_all; done) | (simp_all; omega)) | exact ev_slice_string_hi (strT rfl) rfl rfl (by first | omega | (simp; done) | (simp; omega) | (simp [*]; done) | (simp [*]; omega) | (simp_all; done) | (simp_all; omega)))))) | ((show Wl _ _ _ _ _ _ _ (⟨_, .call ⟨.value (.func 64), _, _⟩, _, _, _, _⟩ :: _) _ _); refine wl_call0 rfl rfl has64 rfl (fun w _ => index1_ok _ _ w) ?_) | apply Wl.nil) | ((show Wq _ _ _ _ _ _ _ _ _ _); first | (apply Wq.ev rfl rfl; (focus (first | ((show Ev _ _ _ _ _ _ _ (.move _) _ _); first | exact ev_move rfl) | ((show Ev _ _ _ _ _ _ _ (.assign _) _ _); first | exact ev_assign rfl) | ((show Ev _ _ _ _ _ _ _ (.binOp _ _ _ _ _) _ _); first | exact ev_add64 (j := 1) rfl rfl (by omega) | exact ev_gei rfl rfl) | ((show Ev _ _ _ _ _ _ _ (.call _) _ _); first | exact ev_len_string (strT rfl) rfl) | ((show Ev _ _ _ _ _ _ _ (.slice _ _ _ _ _) _ _); first | exact ev_slice_string_lo (strT rfl) rfl rfl (by first | omega | (simp; done) | (simp; omega) | (simp [*]; done) | (simp [*]; omega) | (simp_all; done) | (simp_all; omega)) | exact ev_slice_string_hi (strT rfl) rfl rfl (by first | omega | (simp; done) | (simp; omega) | (simp [*]; done) | (simp [*]; omega) | (simp_all; done) | (simp_all; omega)))))) | apply Wq.nil) | ((show W _ _ _ _ _ _ _ _ _); first | apply W.seq | (refine W.regionQ mixed (by kernel_rfl) ?_) | apply W.region | apply W.skip | (refine W.cond rfl ?_ ?_ <;> (intro h; try (exfalso; first | contradiction | omega | exact h rfl | exact h ⟨rfl, rfl⟩ | (simp_all; done)))) | (refine W.ret3 rfl rfl rfl rfl ?_; intro w hs)))
  · exact ret_eq hs (by
      have e : (Lib.indexByte l c + 1).toNat = (Lib.indexByte l c).toNat + 1 := by omega
      simp [cutS, h, e])
  · exact ret_eq hs (by simp [cutS, h])
theorem cut_ok (l : List UInt8) (c : UInt8) (hl : l.length < 4611686018427387904) (w : World) : Calls Tryd.prog 77 #[st l, st [c]] w (Give (.tuple #[st (cutS l c).1, st (cutS l c).2.1, .bool (cutS l c).2.2]) w) := by
  refine give_of_W (vs := [st l, st [c]]) Tryd.func77 rfl Tryd.ntmps77 (Nat.le_of_ble_eq_true rfl) (St.nil w _) ?_
  simp only [argL, Nat.zero_add]
  repeat' (first | ((show Wl _ _ _ _ _ _ _ _ _ _); first | (apply Wl.ev rfl rfl; (focus (first | ((show Ev _ _ _ _ _ _ _ (.move _) _ _); first | exact ev_move rfl) | ((show Ev _ _ _ _ _ _ _ (.assign _) _ _); first | exact ev_assign rfl) | ((show Ev _ _ _ _ _ _ _ (.extract _ _) _ _); first | exact ev_extract rfl rfl)))) | ((show Wl _ _ _ _ _ _ _ (⟨_, .call ⟨.value (.func 87), _, _⟩, _, _, _, _⟩ :: _) _ _); refine wl_call0 rfl rfl has87 rfl (fun w _ => slCut_ok _ _ hl w) ?_) | apply Wl.nil) | ((show W _ _ _ _ _ _ _ _ _); first | apply W.seq | apply W.region | (refine W.ret3 rfl rfl rfl rfl ?_; intro w hs)))
  exact ret_eq hs rfl
theorem hasPrefix1_ok (l : List UInt8) (c : UInt8) (w : World) : Calls Tryd.prog 70 #[st l, st [c]] w (Give (.bool (decide (l.head? = some c))) w) := by
  refine give_of_W (vs := [st l, st [c]]) Tryd.func70 rfl Tryd.ntmps70 (Nat.le_of_ble_eq_true rfl) (St.nil w _) ?_
  simp only [argL, Nat.zero_add]
  match l with
  | [] =>
    repeat' (first | ((show Wl _ _ _ _ _ _ _ _ _ _); first | (apply Wl.ev rfl rfl; (focus (first | ((show Ev _ _ _ _ _ _ _ (.move _) _ _); first | exact ev_move rfl) | ((show Ev _ _ _ _ _ _ _ (.assign _) _ _); first | exact ev_assign rfl) | ((show Ev _ _ _ _ _ _ _ (.pick _ _ _) _ _); first | exact ev_pickF rfl rfl) | ((show Ev _ _ _ _ _ _ _ (.binOp _ _ _ _ _) _ _); first | exact ev_gei rfl rfl) | ((show Ev _ _ _ _ _ _ _ (.call _) _ _); first | exact ev_len_string (strT rfl) rfl)))) | apply Wl.nil | (refine Wl.skip rfl rfl ?_)) | ((show W _ _ _ _ _ _ _ _ _); first | apply W.seq | apply W.region | (refine W.ret1 rfl rfl ?_; intro w hs)))
    exact ret_eq hs rfl
  | d :: l =>
    repeat' (first | ((show Wl _ _ _ _ _ _ _ _ _ _); first | (apply Wl.ev rfl rfl; (focus (first | ((show Ev _ _ _ _ _ _ _ (.move _) _ _); first | exact ev_move rfl) | ((show Ev _ _ _ _ _ _ _ (.assign _) _ _); first | exact ev_assign rfl) | ((show Ev _ _ _ _ _ _ _ (.pick _ _ _) _ _); first | exact ev_pickT rfl rfl | exact ev_pickF rfl rfl) | ((show Ev _ _ _ _ _ _ _ (.binOp _ _ _ _ _) _ _); first | exact ev_eqs rfl rfl | exact ev_gei rfl rfl) | ((show Ev _ _ _ _ _ _ _ (.call _) _ _); first | exact ev_len_string (strT rfl) rfl) | ((show Ev _ _ _ _ _ _ _ (.slice _ _ _ _ _) _ _); first | exact ev_slice_string_hi (strT rfl) rfl rfl (by simp; omega))))) | apply Wl.nil | (refine Wl.skip rfl rfl ?_) | ((fail_if_success (apply Wl.chk rfl)); refine Wl.split rfl rfl ?_ ?_ <;> (intro h; try (exfalso; first | contradiction | omega | exact h rfl | exact h ⟨rfl, rfl⟩ | (simp_all; done))))) | ((show W _ _ _ _ _ _ _ _ _); first | apply W.seq | apply W.region | (refine W.ret1 rfl rfl ?_; intro w hs)))
    · exact ret_eq hs (congrArg Value.bool (decide_eq_decide.2 (by simp)))
    · exfalso; simp at h; omega
theorem slCutPrefix1_ok (l : List UInt8) (c : UInt8) (w : World) : Calls Tryd.prog 86 #[st l, st [c]] w (Give (.tuple #[st (if l.head? = some c then l.tail else l), .bool (decide (l.head? = some c))]) w) := by
  refine give_of_W (vs := [st l, st [c]]) Tryd.func86 rfl Tryd.ntmps86 (Nat.le_of_ble_eq_true rfl) (St.nil w _) ?_
  simp only [argL, Nat.zero_add]
  by_cases hp : l.head? = some c
  · obtain ⟨l', rfl⟩ : ∃ l', l = c :: l' := by
      cases l with
      | nil => simp at hp
      | cons d l => simp at hp; exact ⟨l, by rw [hp]⟩
    repeat' (first | ((show Wl _ _ _ _ _ _ _ _ _ _); first | (apply Wl.ev rfl rfl; (focus (first | ((show Ev _ _ _ _ _ _ _ (.move _) _ _); first | exact ev_move rfl) | ((show Ev _ _ _ _ _ _ _ (.assign _) _ _); first | exact ev_assign rfl) | ((show Ev _ _ _ _ _ _ _ (.unOp _ _ _) _ _); first | exact ev_notT rfl) | ((show Ev _ _ _ _ _ _ _ (.call _) _ _); first | exact ev_len_string (strT rfl) rfl) | ((show Ev _ _ _ _ _ _ _ (.slice _ _ _ _ _) _ _); first | exact ev_slice_string_lo (strT rfl) rfl rfl (by simp; omega))))) | ((show Wl _ _ _ _ _ _ _ (⟨_, .call ⟨.value (.func 70), _, _⟩, _, _, _, _⟩ :: _) _ _); refine wl_call0 rfl rfl has70 rfl (fun w _ => Give.to (hasPrefix1_ok _ _ w) (congrArg Value.bool (decide_eq_true hp))) ?_) | apply Wl.nil) | ((show W _ _ _ _ _ _ _ _ _); first | apply W.seq | apply W.region | apply W.skip | (refine W.condF rfl ?_) | (refine W.ret2 rfl rfl rfl ?_; intro w hs)))
    exact ret_eq hs (by simp)
  · repeat' (first | ((show Wl _ _ _ _ _ _ _ _ _ _); first | (apply Wl.ev rfl rfl; (focus (first | ((show Ev _ _ _ _ _ _ _ (.move _) _ _); first | exact ev_move rfl) | ((show Ev _ _ _ _ _ _ _ (.assign _) _ _); first | exact ev_assign rfl) | ((show Ev _ _ _ _ _ _ _ (.unOp _ _ _) _ _); first | exact ev_notF rfl)))) | ((show Wl _ _ _ _ _ _ _ (⟨_, .call ⟨.value (.func 70), _, _⟩, _, _, _, _⟩ :: _) _ _); refine wl_call0 rfl rfl has70 rfl (fun w _ => Give.to (hasPrefix1_ok _ _ w) (congrArg Value.bool (decide_eq_false hp))) ?_) | apply Wl.nil) | ((show W _ _ _ _ _ _ _ _ _); first | apply W.seq | apply W.region | (refine W.condT rfl ?_) | (refine W.ret2 rfl rfl rfl ?_; intro w hs)))
    exact ret_eq hs (by simp [hp])
theorem cutPrefix1_ok (l : List UInt8) (c : UInt8) (w : World) : Calls Tryd.prog 76 #[st l, st [c]] w (Give (.tuple #[st (if l.head? = some c then l.tail else l), .bool (decide (l.head? = some c))]) w) := by
  refine give_of_W (vs := [st l, st [c]]) Tryd.func76 rfl Tryd.ntmps76 (Nat.le_of_ble_eq_true rfl) (St.nil w _) ?_
  simp only [argL, Nat.zero_add]
  repeat' (first | ((show Wl _ _ _ _ _ _ _ _ _ _); first | (apply Wl.ev rfl rfl; (focus (first | ((show Ev _ _ _ _ _ _ _ (.move _) _ _); first | exact ev_move rfl) | ((show Ev _ _ _ _ _ _ _ (.assign _) _ _); first | exact ev_assign rfl) | ((show Ev _ _ _ _ _ _ _ (.extract _ _) _ _); first | exact ev_extract rfl rfl)))) | ((show Wl _ _ _ _ _ _ _ (⟨_, .call ⟨.value (.func 86), _, _⟩, _, _, _, _⟩ :: _) _ _); refine wl_call0 rfl rfl has86 rfl (fun w _ => slCutPrefix1_ok _ _ w) ?_) | apply Wl.nil) | ((show W _ _ _ _ _ _ _ _ _); first | apply W.seq | apply W.region | (refine W.ret2 rfl rfl rfl ?_; intro w hs)))
  exact ret_eq hs rfl
end Go.Proofs.YthhfandandfeeaaDoor
