/- Walks: the document's words. No condition. -/
import Derived.Test.YtdnicbbandbdbaaDoorV4
namespace Go.Proofs.YtdnicbbandbdbaaDoor
open Go.PB Go.RowKit
attribute [local irreducible] Go.Calls
def wdV : List Value := (wdL.drop 1).map st
theorem wdV_get {op : Int} (h : 1 ≤ op ∧ op ≤ 32) : wdV[(op - 1).toNat]? = some (st (wdS op)) := by
  have hl : wdL.length = 33 := by decide
  unfold wdV wdS
  rw [if_pos h, List.getElem?_map, List.getElem?_drop, show 1 + (op - 1).toNat = op.toNat by omega, List.getD_eq_getElem?_getD, List.getElem?_eq_getElem (by omega)]
  rfl
def z62 : List Value := [Value.string ⟨#[]⟩, Value.string ⟨#[]⟩, Value.string ⟨#[]⟩, Value.string ⟨#[]⟩, Value.string ⟨#[]⟩, Value.string ⟨#[]⟩, Value.string ⟨#[]⟩, Value.string ⟨#[]⟩, Value.string ⟨#[]⟩, Value.string ⟨#[]⟩, Value.string ⟨#[]⟩, Value.string ⟨#[]⟩, Value.string ⟨#[]⟩, Value.string ⟨#[]⟩, Value.string ⟨#[]⟩, Value.string ⟨#[]⟩, Value.string ⟨#[]⟩, Value.string ⟨#[]⟩, Value.string ⟨#[]⟩, Value.string ⟨#[]⟩, Value.string ⟨#[]⟩, Value.string ⟨#[]⟩, Value.string ⟨#[]⟩, Value.string ⟨#[]⟩, Value.string ⟨#[]⟩, Value.string ⟨#[]⟩, Value.string ⟨#[]⟩, Value.string ⟨#[]⟩, Value.string ⟨#[]⟩, Value.string ⟨#[]⟩, Value.string ⟨#[]⟩, Value.string ⟨#[]⟩]
def p62 : List (Nat × Nat) := [(0, 1), (1, 1), (2, 1), (3, 1), (4, 1), (5, 1), (6, 1), (7, 1), (8, 1), (9, 1), (10, 1), (11, 1), (12, 1), (13, 1), (14, 1), (15, 1), (16, 1), (17, 1), (18, 1), (19, 1), (20, 1), (21, 1), (22, 1), (23, 1), (24, 1), (25, 1), (26, 1), (27, 1), (28, 1), (29, 1), (30, 1), (31, 1)]
theorem zero62 : Zero Tryd.prog 62 z62 := zero_of (z := .agg z62.toArray) (by kernel_rfl) rfl
theorem bld62 : Bld Tryd.prog 62 z62 p62 := ⟨zero62, .inr ⟨_, _, _, Tryd.underlying62, szT rfl, by decide⟩⟩
def v62 : List (Nat × Value) := (List.range 32).zip wdV
theorem fill62 : fillP p62 z62 v62 = some wdV := by rfl
set_option maxRecDepth 100000 in
theorem words28_ok (w : World) : Calls Tryd.prog 32 #[] w (Give (.agg wdV.toArray) w) := by
  refine give_of_W (vs := []) Tryd.func32 rfl Tryd.ntmps32 (Nat.le_of_ble_eq_true rfl) (St.nil w []) ?_
  simp only [argL]
  repeat' (first | (apply gL; first | (apply Wl.ev rfl rfl; (focus (first | (apply gBui; first | exact ev_build (vs := v62) (lv := wdV) bld62 rfl fill62)))) | ((show Wl _ _ _ _ _ _ _ (⟨some 0, .alloc _, _, _, _, _⟩ :: _) _ _); refine wl_alloc rfl rfl zero62 ?_; intro b0) | (refine wl_storeWhole rfl rfl rfl (szT rfl) (by decide) (by repeat (first | exact Upd.here | apply Upd.there)) (by rfl) ?_) | apply Wl.nil) | (apply gQ; first | (apply Wq.ev rfl rfl; (focus (first | (apply gBui; first | exact ev_build (vs := v62) (lv := wdV) bld62 rfl fill62))))) | ((show W _ _ _ _ _ _ _ _ _); first | apply W.seq | apply W.region | (refine W.retc rfl rfl (agT rfl) (by repeat (first | exact List.Mem.head _ | apply List.Mem.tail)) (szT rfl) ?_; intro w hs)))
  all_goals first | exact ret_eq hs rfl | fail
set_option maxRecDepth 100000 in
theorem word28_ok (op : Int) (w : World) (h64 : inI64 op) : Calls Tryd.prog 15 #[.int .i64 op] w (Give (st (wdS op)) w) := by
  unfold inI64 at h64
  refine give_of_W (vs := [.int .i64 op]) Tryd.func15 rfl Tryd.ntmps15 (Nat.le_of_ble_eq_true rfl) (St.nil w _) ?_
  simp only [argL]
  by_cases hop : 1 ≤ op ∧ op ≤ 32
  · have hg := wdV_get hop
    repeat' (first | (apply gL; first | (apply Wl.ev rfl rfl; (focus (first | exact ev_move rfl | exact ev_assign rfl | exact ev_pickF rfl rfl | (apply gBin; first | exact ev_lti rfl rfl | exact ev_gti rfl rfl | exact ev_sub64 rfl rfl (by omega)) | (apply gIdx; first | exact ev_index_array (arrT rfl) (agT rfl) (szT rfl) rfl rfl (by omega) hg)))) | ((show Wl _ _ _ _ _ _ _ (⟨_, .call ⟨.value (.func 32), _, _⟩, _, _, _, _⟩ :: _) _ _); refine wl_call0 rfl rfl has32 rfl (fun w hs => words28_ok w) ?_) | apply Wl.nil | ((fail_if_success (apply Wl.chk rfl)); refine Wl.split rfl rfl ?_ ?_ <;> (intro h; try (exfalso; first | contradiction | omega | exact h rfl | exact h ⟨rfl, rfl⟩ | (exact Bool.false_ne_true ((by assumption : _ = false).symm.trans h)) | (exact Bool.false_ne_true (h.symm.trans (by assumption))))))) | (apply gQ; first | (apply Wq.ev rfl rfl; (focus (first | exact ev_move rfl | exact ev_assign rfl | exact ev_pickF rfl rfl | (apply gBin; first | exact ev_lti rfl rfl | exact ev_gti rfl rfl | exact ev_sub64 rfl rfl (by omega)) | (apply gIdx; first | exact ev_index_array (arrT rfl) (agT rfl) (szT rfl) rfl rfl (by omega) hg))))) | ((show W _ _ _ _ _ _ _ _ _); first | apply W.seq | apply W.region | apply W.skip | (refine W.cond rfl ?_ ?_ <;> (intro h; try (exfalso; first | contradiction | omega | exact h rfl | exact h ⟨rfl, rfl⟩ | (exact Bool.false_ne_true ((by assumption : _ = false).symm.trans h)) | (exact Bool.false_ne_true (h.symm.trans (by assumption)))))) | (refine W.ret1 rfl rfl ?_; intro w hs)))
    all_goals first | exact ret_eq hs rfl | (exfalso; omega) | fail
  · have e : wdS op = [] := by unfold wdS; rw [if_neg hop]
    rw [e]
    repeat' (first | (apply gL; first | (apply Wl.ev rfl rfl; (focus (first | exact ev_move rfl | exact ev_assign rfl | (apply gPic; first | exact ev_pickT rfl rfl | exact ev_pickF rfl rfl) | (apply gBin; first | exact ev_lti rfl rfl | exact ev_gti rfl rfl)))) | apply Wl.nil | (refine Wl.skip rfl rfl ?_) | ((fail_if_success (apply Wl.chk rfl)); refine Wl.split rfl rfl ?_ ?_ <;> (intro h; try (exfalso; first | contradiction | omega | exact h rfl | exact h ⟨rfl, rfl⟩ | (exact Bool.false_ne_true ((by assumption : _ = false).symm.trans h)) | (exact Bool.false_ne_true (h.symm.trans (by assumption))))))) | (apply gQ; first | (apply Wq.ev rfl rfl; (focus (first | exact ev_move rfl | exact ev_assign rfl | (apply gPic; first | exact ev_pickT rfl rfl | exact ev_pickF rfl rfl) | (apply gBin; first | exact ev_lti rfl rfl | exact ev_gti rfl rfl))))) | ((show W _ _ _ _ _ _ _ _ _); first | apply W.seq | apply W.region | (refine W.condT rfl ?_) | (refine W.cond rfl ?_ ?_ <;> (intro h; try (exfalso; first | contradiction | omega | exact h rfl | exact h ⟨rfl, rfl⟩ | (exact Bool.false_ne_true ((by assumption : _ = false).symm.trans h)) | (exact Bool.false_ne_true (h.symm.trans (by assumption)))))) | (refine W.ret1 rfl rfl ?_; intro w hs)))
    all_goals first | exact ret_eq hs rfl | (exfalso; omega) | fail
end Go.Proofs.YtdnicbbandbdbaaDoor
