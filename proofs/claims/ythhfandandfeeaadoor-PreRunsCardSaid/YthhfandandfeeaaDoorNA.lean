/- Walks of the laws' small functions: whether two rows of tokens are one, whether the layer does anything. No condition but the listed table's values. -/
import Derived.Test.YthhfandandfeeaaDoorMN
namespace Go.Proofs.YthhfandandfeeaaDoor
open Go.PB Go.RowKit
attribute [local irreducible] Go.Calls
instance tiDec : DecidableEq Ti := fun a b => decidable_of_iff (a.k = b.k ∧ a.t = b.t ∧ a.x = b.x ∧ a.a = b.a ∧ a.n = b.n) (by cases a; cases b; simp)
abbrev wkT : List UInt8 := [35, 100, 101, 102, 105, 110, 101, 32, 78, 32, 51, 10, 78, 32, 78]
def wkS : List Tk := [⟨2, [51], 196608, 12, 1⟩, ⟨2, [51], 196608, 14, 1⟩]
theorem wk_lex : lexS wkT = ([⟨4, [35], 0, 0, 0⟩, ⟨1, [100, 101, 102, 105, 110, 101], 0, 1, 0⟩, ⟨1, [78], 0, 8, 0⟩, ⟨2, [51], 196608, 10, 0⟩, ⟨1, [78], 0, 12, 1⟩, ⟨1, [78], 0, 14, 1⟩], 0, 0) := by kernel_rfl
theorem wk_pre : preS wkT = (wkS, 0, 0) := by
  rw [preS_of wk_lex]
  kernel_rfl
theorem wakes_ok (w : World) (hm : Mx w) (hp : Pows w) : Calls Tryd.prog 9 #[] w (Give (.bool true) w) := by
  refine give_of_W (vs := []) Tryd.func9 rfl Tryd.ntmps9 (Nat.le_of_ble_eq_true rfl) (St.nil w _) ?_
  simp only [argL]
  have lx : ∀ w, Mx w → Pows w → Calls Tryd.prog 10 #[st wkT] w (Gives (fun o : Ow => .tuple #[ownV 2 o, spotV 0 0]) (fun o => ownOk 2 5 (tksC wkS) o) w (fun _ => []) (owN 35)) := fun w h h2 => by
    have := prun_ok wkT (by simp) w h h2
    rw [wk_pre] at this
    exact this
  repeat' (first | (apply gL; first | (apply Wl.ev rfl rfl; (focus (first | exact ev_move rfl | (apply gLoa; first | exact ev_loadAt (agT rfl) rfl (by repeat (first | exact List.Mem.head _ | apply List.Mem.tail)) (hget _ _ rfl) | exact ev_loadWhole (agT rfl) (szT rfl) rfl (by repeat (first | exact List.Mem.head _ | apply List.Mem.tail)) rfl) | (apply gFie; first | exact ev_fieldAddr0 (fldT rfl) rfl | exact ev_fieldAddr (fldT rfl) rfl) | exact ev_assign rfl | exact ev_pickT rfl rfl | (apply gBin; first | exact ev_eqi rfl rfl | exact ev_eqsT rfl rfl (by decide) | exact ev_eqFlatD (flatT rfl) rfl rfl rfl eqL_ii) | exact ev_extract rfl rfl | (apply gBui; first | (apply ev_build (bldT rfl) rfl; simp [fillP]; rfl)) | (apply gCal; first | exact ev_len_slice (slT rfl) rfl) | (apply gIxA; first | exact ev_indexAddr (slT rfl) (szT rfl) rfl rfl (by omega))))) | ((show Wl _ _ _ _ _ _ _ (⟨_, .call ⟨.value (.func 10), _, _⟩, _, _, _, _⟩ :: _) _ _); refine wl_callX rfl rfl has10 rfl (fun w hs => lx w (hm.st hs (by simp)) (hp.st hs) ) ?_; intro o ho; obtain ⟨lb, cap, cur, rfl, hcap, hsz, hget⟩ := own_some ho (by decide); simp only [ents_owN, ownH, List.singleton_append, ownV]; try simp only [ents, List.map_cons, List.map_nil, List.cons_append, List.nil_append]) | apply Wl.nil | (refine wl_alloc rfl rfl (zeroT rfl) ?_; intro b) | (refine wl_storeWhole rfl rfl rfl (szT rfl) rfl (by repeat (first | exact Upd.here | apply Upd.there)) (by rfl) ?_)) | (apply gQ; first | (apply Wq.ev rfl rfl; (focus (first | exact ev_move rfl | (apply gLoa; first | exact ev_loadAt (agT rfl) rfl (by repeat (first | exact List.Mem.head _ | apply List.Mem.tail)) (hget _ _ rfl) | exact ev_loadWhole (agT rfl) (szT rfl) rfl (by repeat (first | exact List.Mem.head _ | apply List.Mem.tail)) rfl) | (apply gFie; first | exact ev_fieldAddr0 (fldT rfl) rfl | exact ev_fieldAddr (fldT rfl) rfl) | exact ev_assign rfl | exact ev_pickT rfl rfl | (apply gBin; first | exact ev_eqi rfl rfl | exact ev_eqsT rfl rfl (by decide) | exact ev_eqFlatD (flatT rfl) rfl rfl rfl eqL_ii) | exact ev_extract rfl rfl | (apply gBui; first | (apply ev_build (bldT rfl) rfl; simp [fillP]; rfl)) | (apply gCal; first | exact ev_len_slice (slT rfl) rfl) | (apply gIxA; first | exact ev_indexAddr (slT rfl) (szT rfl) rfl rfl (by omega)))))) | ((show W _ _ _ _ _ _ _ _ _); first | apply W.seq | apply W.region | (refine W.ret1 rfl rfl ?_; intro w hs)))
  all_goals exact ret_eq hs rfl
end Go.Proofs.YthhfandandfeeaaDoor
