/- Walks of functions of this seat, and what they compute: lemmas for the proofs of its statements. No condition. -/
import Derived.Test.YthhfandandfeeaaDoorTypes
namespace Go.Proofs.YthhfandandfeeaaDoor
open Go.PB Go.RowKit
attribute [local irreducible] Go.Calls
abbrev st (l : List UInt8) : Value := .string ⟨l.toArray⟩
theorem ret_eq {v u : Value} {w w' : World} {H : List Ent} (hs : St [] w w' H) (h : v = u) : Ending.returned v = .returned u ∧ Ext w w' := Go.PB.ret_eq hs h
theorem Give.to {v u : Value} {w : World} {f : FuncId} {args : Array Value} (h : Calls Tryd.prog f args w (Give v w)) (e : v = u) : Calls Tryd.prog f args w (Give u w) := e ▸ h
/-- a raw between the least and the greatest one -/
def rawS (n : Int) : Int := min (max n (-2147483648)) 2147483647
theorem rawS_range (n : Int) : -2147483648 ≤ rawS n ∧ rawS n ≤ 2147483647 := by unfold rawS; omega
set_option maxRecDepth 100000 in
theorem cut64_ok (x a b : Int) (w : World) : Calls Tryd.prog 88 #[.int .i64 x, .int .i64 a, .int .i64 b] w (Give (.int .i64 (min (max x a) b)) w) := by
  refine give_of_W (vs := [.int .i64 x, .int .i64 a, .int .i64 b]) Tryd.func88 rfl Tryd.ntmps88 (Nat.le_of_ble_eq_true rfl) (St.nil w _) ?_
  simp only [argL, Nat.reduceAdd, Nat.zero_add]
  repeat' (first | ((show Wl _ _ _ _ _ _ _ _ _ _); first | (apply Wl.ev rfl rfl; (focus (first | ((show Ev _ _ _ _ _ _ _ (.move _) _ _); first | exact ev_move rfl) | ((show Ev _ _ _ _ _ _ _ (.assign _) _ _); first | exact ev_assign rfl) | ((show Ev _ _ _ _ _ _ _ (.call _) _ _); first | exact ev_max rfl rfl | exact ev_min rfl rfl)))) | apply Wl.nil) | ((show W _ _ _ _ _ _ _ _ _); first | apply W.seq | apply W.region | (refine W.ret1 rfl rfl ?_; intro w hs)))
  exact ret_eq hs rfl
theorem cutI_ok (x a b : Int) (w : World) : Calls Tryd.prog 80 #[.int .i64 x, .int .i64 a, .int .i64 b] w (Give (.int .i64 (min (max x a) b)) w) := by
  refine give_of_W (vs := [.int .i64 x, .int .i64 a, .int .i64 b]) Tryd.func80 rfl Tryd.ntmps80 (Nat.le_of_ble_eq_true rfl) (St.nil w _) ?_
  simp only [argL, Nat.reduceAdd, Nat.zero_add]
  repeat' (first | ((show Wl _ _ _ _ _ _ _ _ _ _); first | (apply Wl.ev rfl rfl; (focus (first | ((show Ev _ _ _ _ _ _ _ (.move _) _ _); first | exact ev_move rfl) | ((show Ev _ _ _ _ _ _ _ (.assign _) _ _); first | exact ev_assign rfl) | ((show Ev _ _ _ _ _ _ _ (.call _) _ _); first | exact ev_max rfl rfl | exact ev_min rfl rfl)))) | apply Wl.nil) | ((show W _ _ _ _ _ _ _ _ _); first | apply W.seq | apply W.region | (refine W.ret1 rfl rfl ?_; intro w hs)))
  exact ret_eq hs rfl
theorem raw_ok (x : Int) (w : World) : Calls Tryd.prog 79 #[.int .i64 x] w (Give (.int .i32 (rawS x)) w) := by
  refine give_of_W (vs := [.int .i64 x]) Tryd.func79 rfl Tryd.ntmps79 (Nat.le_of_ble_eq_true rfl) (St.nil w _) ?_
  simp only [argL]
  repeat' (first | ((show Wl _ _ _ _ _ _ _ _ _ _); first | (apply Wl.ev rfl rfl; (focus (first | ((show Ev _ _ _ _ _ _ _ (.move _) _ _); first | exact ev_move rfl) | ((show Ev _ _ _ _ _ _ _ (.assign _) _ _); first | exact ev_assign rfl) | ((show Ev _ _ _ _ _ _ _ (.convert _ _ _) _ _); first | exact ev_convK (dT rfl) (intT rfl) rfl (by first | exact wrap64_in (by omega) | exact IntWalk.u8_in _ (by omega) | exact IntWalk.i32_in _ (by omega)))))) | ((show Wl _ _ _ _ _ _ _ (⟨_, .call ⟨.value (.func 88), _, _⟩, _, _, _, _⟩ :: _) _ _); refine wl_call0 rfl rfl has88 rfl (fun w _ => cut64_ok _ _ _ w) ?_) | apply Wl.nil) | ((show W _ _ _ _ _ _ _ _ _); first | apply W.seq | apply W.region | (refine W.ret1 rfl rfl ?_; intro w hs)))
  exact ret_eq hs rfl
/-- the number of a whole number -/
def ofS (n : Int) : Int := rawS (min (max n (-65536)) 65536 * 65536)
theorem of_ok (x : Int) (w : World) : Calls Tryd.prog 66 #[.int .i64 x] w (Give (.int .i32 (ofS x)) w) := by
  refine give_of_W (vs := [.int .i64 x]) Tryd.func66 rfl Tryd.ntmps66 (Nat.le_of_ble_eq_true rfl) (St.nil w _) ?_
  simp only [argL]
  repeat' (first | ((show Wl _ _ _ _ _ _ _ _ _ _); first | (apply Wl.ev rfl rfl; (focus (first | ((show Ev _ _ _ _ _ _ _ (.move _) _ _); first | exact ev_move rfl) | ((show Ev _ _ _ _ _ _ _ (.assign _) _ _); first | exact ev_assign rfl) | ((show Ev _ _ _ _ _ _ _ (.binOp _ _ _ _ _) _ _); first | exact ev_shl rfl rfl (by decide))))) | ((show Wl _ _ _ _ _ _ _ (⟨_, .call ⟨.value (.func 80), _, _⟩, _, _, _, _⟩ :: _) _ _); refine wl_call0 rfl rfl has80 rfl (fun w _ => cutI_ok _ _ _ w) ?_) | ((show Wl _ _ _ _ _ _ _ (⟨_, .call ⟨.value (.func 79), _, _⟩, _, _, _, _⟩ :: _) _ _); refine wl_call0 rfl rfl has79 rfl (fun w _ => raw_ok _ w) ?_) | apply Wl.nil) | ((show W _ _ _ _ _ _ _ _ _); first | apply W.seq | apply W.region | (refine W.ret1 rfl rfl ?_; intro w hs)))
  exact ret_eq hs (by rw [wrap64_in (by simp [IntKind.bits]; omega)]; rfl)
theorem raw02_ok (x : Int) (w : World) : Calls Tryd.prog 69 #[.int .i64 x] w (Give (.int .i32 (rawS x)) w) := by
  refine give_of_W (vs := [.int .i64 x]) Tryd.func69 rfl Tryd.ntmps69 (Nat.le_of_ble_eq_true rfl) (St.nil w _) ?_
  simp only [argL]
  repeat' (first | ((show Wl _ _ _ _ _ _ _ _ _ _); first | (apply Wl.ev rfl rfl; (focus (first | ((show Ev _ _ _ _ _ _ _ (.move _) _ _); first | exact ev_move rfl) | ((show Ev _ _ _ _ _ _ _ (.assign _) _ _); first | exact ev_assign rfl) | ((show Ev _ _ _ _ _ _ _ (.binOp _ _ _ _ _) _ _); first | exact ev_lti rfl rfl | exact ev_gti rfl rfl) | ((show Ev _ _ _ _ _ _ _ (.convert _ _ _) _ _); first | exact ev_convK (dT rfl) (intT rfl) rfl (by first | exact wrap64_in (by omega) | exact IntWalk.u8_in _ (by omega) | exact IntWalk.i32_in _ (by omega)))))) | apply Wl.nil) | ((show W _ _ _ _ _ _ _ _ _); first | apply W.seq | apply W.region | apply W.skip | (refine W.cond rfl ?_ ?_ <;> (intro h; try (exfalso; first | contradiction | omega | exact h rfl | exact h ⟨rfl, rfl⟩ | (simp_all; done)))) | (refine W.ret1 rfl rfl ?_; intro w hs)))
  · exact ret_eq hs (by unfold rawS; congr 1; omega)
  · exact ret_eq hs (by unfold rawS; congr 1; omega)
  · exact ret_eq hs (by unfold rawS; congr 1; omega)
theorem of02_ok (x : Int) (w : World) : Calls Tryd.prog 57 #[.int .i64 x] w (Give (.int .i32 (ofS x)) w) := by
  refine give_of_W (vs := [.int .i64 x]) Tryd.func57 rfl Tryd.ntmps57 (Nat.le_of_ble_eq_true rfl) (St.nil w _) ?_
  simp only [argL]
  repeat' (first | ((show Wl _ _ _ _ _ _ _ _ _ _); first | (apply Wl.ev rfl rfl; (focus (first | ((show Ev _ _ _ _ _ _ _ (.move _) _ _); first | exact ev_move rfl) | ((show Ev _ _ _ _ _ _ _ (.assign _) _ _); first | exact ev_assign rfl) | ((show Ev _ _ _ _ _ _ _ (.binOp _ _ _ _ _) _ _); first | exact ev_lti rfl rfl | exact ev_gti rfl rfl | exact ev_mul64 rfl rfl (by omega))))) | ((show Wl _ _ _ _ _ _ _ (⟨_, .call ⟨.value (.func 69), _, _⟩, _, _, _, _⟩ :: _) _ _); refine wl_call0 rfl rfl has69 rfl (fun w _ => raw02_ok _ w) ?_) | apply Wl.nil) | ((show W _ _ _ _ _ _ _ _ _); first | apply W.seq | apply W.region | apply W.skip | (refine W.cond rfl ?_ ?_ <;> (intro h; try (exfalso; first | contradiction | omega | exact h rfl | exact h ⟨rfl, rfl⟩ | (simp_all; done)))) | (refine W.ret1 rfl rfl ?_; intro w hs)))
  · exact ret_eq hs (by unfold ofS rawS; congr 1; omega)
  · exact ret_eq hs (by unfold ofS rawS; congr 1; omega)
  · exact ret_eq hs (by unfold ofS rawS; congr 1; omega)
end Go.Proofs.YthhfandandfeeaaDoor
