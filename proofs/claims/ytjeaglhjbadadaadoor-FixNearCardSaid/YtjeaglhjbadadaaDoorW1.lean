/- Walks of functions of this seat, and what they compute: lemmas for the proofs of its statements. No condition. -/
import Derived.Test.YtjeaglhjbadadaaDoorT4
import Derived.Test.YtjeaglhjbadadaaDoorR6
namespace Go.Proofs.YtjeaglhjbadadaaDoor
open Go.PB Go.RowKit
attribute [local irreducible] Go.Calls
theorem wk_parse : parseS [49, 46, 53] = (98304, 0) := by decide +kernel
theorem wk_text : textS 98304 = [49, 46, 53] := by
  unfold textS tailS
  rw [show (98304 : Int).natAbs = 98304 from rfl, show fracS 98304 = 50000 by unfold fracS; rfl, Lib.decDigits_one (by decide)]
  unfold pad5
  decide
theorem wk_mul : mulS 98304 98304 = 147456 := by decide
theorem wk_div : divS 65536 131072 = 32768 := by unfold divS quoS; decide
theorem wk_of : ofS 3 = 196608 := by decide
theorem wakes_ok (w : World) (hp : Pows w) : Calls Tryd.prog 11 #[] w (Give (.bool true) w) := by
  refine give_of_W (vs := []) Tryd.func11 rfl Tryd.ntmps11 (Nat.le_of_ble_eq_true rfl) (St.nil w _) ?_
  simp only [argL]
  repeat' (first | ((show Wl _ _ _ _ _ _ _ _ _ _); first | (apply Wl.ev rfl rfl; (focus (first | ((show Ev _ _ _ _ _ _ _ (.move _) _ _); first | exact ev_move rfl) | ((show Ev _ _ _ _ _ _ _ (.assign _) _ _); first | exact ev_assign rfl) | ((show Ev _ _ _ _ _ _ _ (.pick _ _ _) _ _); first | exact ev_pickT rfl rfl | exact ev_pickF rfl rfl) | ((show Ev _ _ _ _ _ _ _ (.binOp _ _ _ _ _) _ _); first | exact ev_eqi rfl rfl | exact ev_eqsT rfl rfl (by decide) | exact ev_eqsF rfl rfl (by decide) | exact ev_eqs rfl rfl | exact ev_eqFlatD (flatT rfl) rfl rfl rfl eqL_ii | exact ev_eqb_self (boolT rfl) rfl rfl | exact ev_eqb (boolT rfl) rfl rfl) | ((show Ev _ _ _ _ _ _ _ (.extract _ _) _ _); first | exact ev_extract rfl rfl)))) | ((show Wl _ _ _ _ _ _ _ (⟨_, .call ⟨.value (.func 12), _, _⟩, _, _, _, _⟩ :: _) _ _); refine wl_call0 rfl rfl has12 rfl (fun w _ => (show Calls _ _ _ _ (Give (res2i (98304, 0)) w) from by rw [← wk_parse]; exact parse_ok [49, 46, 53] (by decide) w)) ?_) | ((show Wl _ _ _ _ _ _ _ (⟨_, .call ⟨.value (.func 20), _, _⟩, _, _, _, _⟩ :: _) _ _); refine wl_call0 rfl rfl has20 rfl (fun w _ => (show Calls _ _ _ _ (Give (.int .i32 196608) w) from by rw [← wk_of]; exact of_ok _ w)) ?_) | ((show Wl _ _ _ _ _ _ _ (⟨_, .call ⟨.value (.func 14), _, _⟩, _, _, _, _⟩ :: _) _ _); refine wl_call0 rfl rfl has14 rfl (fun w hs => (show Calls _ _ _ _ (Give (st [49, 46, 53]) w) from by rw [← wk_text]; exact text_ok 98304 (by omega) w (hp.st hs))) ?_) | ((show Wl _ _ _ _ _ _ _ (⟨_, .call ⟨.value (.func 16), _, _⟩, _, _, _, _⟩ :: _) _ _); refine wl_call0 rfl rfl has16 rfl (fun w _ => (show Calls _ _ _ _ (Give (.int .i32 147456) w) from by rw [← wk_mul]; exact mul_ok 98304 98304 (by omega) (by omega) w)) ?_) | ((show Wl _ _ _ _ _ _ _ (⟨_, .call ⟨.value (.func 17), _, _⟩, _, _, _, _⟩ :: _) _ _); refine wl_call0 rfl rfl has17 rfl (fun w _ => (show Calls _ _ _ _ (Give (.int .i32 32768) w) from by rw [← wk_div]; exact div_ok 65536 131072 (by omega) (by omega) w)) ?_) | apply Wl.nil | (refine Wl.skip rfl rfl ?_) | (refine Wl.skip0 rfl ?_) | ((fail_if_success (apply Wl.chk rfl)); refine Wl.split rfl rfl ?_ ?_ <;> (intro h; try (exfalso; first | contradiction | omega | exact h rfl | exact h ⟨rfl, rfl⟩ | (simp_all; done)))) | ((fail_if_success (apply Wl.chk rfl)); refine Wl.splitB rfl rfl ?_ ?_ <;> (intro h; try (exfalso; first | contradiction | (simp_all; done))))) | ((show W _ _ _ _ _ _ _ _ _); first | apply W.seq | apply W.region | apply W.block | apply W.blk | apply W.skip | apply W.scp | apply W.label | apply W.scope0 | (refine W.exit rfl ?_) | (refine W.condT rfl ?_) | (refine W.condF rfl ?_) | (refine W.cond rfl ?_ ?_ <;> (intro h; try (exfalso; first | contradiction | omega | exact h rfl | exact h ⟨rfl, rfl⟩ | (simp_all; done)))) | (refine W.condB rfl ?_ ?_ <;> (intro h; try (exfalso; first | contradiction | (simp_all; done)))) | (refine W.ret1 rfl rfl ?_; intro w hs)))
  exact ret_eq hs rfl
end Go.Proofs.YtjeaglhjbadadaaDoor
