/- Walks: the law ParseSame. Conditions: what comes in is not too long; the cell that the library's search reads. -/
import Derived.Test.YtbinaeemcidicaaZRC
import Derived.Test.YtbinaeemcidicaaZQZ
import Derived.Test.YtbinaeemcidicaaZQN
namespace Go.Proofs.Ytbinaeemcidicaa
open Go.PB Go.RowKit
attribute [local irreducible] Go.Calls
theorem RdT_nk {H : List Ent} {N : List Nk} {o : Ow} (ho : ownOk N.length 6 (ndsC N) o) (hk : ndKok N) (h1 : ∀ p ∈ ndKH N, p ∈ H) (h2 : ∀ p ∈ ownH 38 o, p ∈ H) : RdT H (ownV N.length o) (N.map plaV) := by
  refine ⟨?_, fun y hy => ?_⟩
  · rw [List.length_map, ← nds_pla]
    exact RdX.own (e := 38) ho h2
  · obtain ⟨x, hx, rfl⟩ := List.mem_map.1 hy
    exact RdX.own (hk x hx) (fun p hp => h1 p (List.mem_flatMap.2 ⟨_, hx, hp⟩))
theorem coreL_nk {N : List Nk} {l : List Nv} (h : N.map Prod.fst = l.map Nv.nd) : coreL l = coreL (N.map plaV) := by
  have e1 : coreL l = (l.map Nv.nd).map coreN := by rw [List.map_map]; rfl
  have e2 : coreL (N.map plaV) = (N.map Prod.fst).map coreN := by
    show (N.map plaV).map (fun y => coreN y.nd) = _
    rw [List.map_map, List.map_map]
    rfl
  rw [e1, e2, h]
theorem cut_sizes {l la : List Nv} (h : la.map Nv.nd = (l.take 300).map (fun y => cutN y.nd)) : la.length ≤ 1000 ∧ ∀ y ∈ la, y.nd.ks.length ≤ 1048576 := by
  have := congrArg List.length h
  rw [List.length_map, List.length_map, List.length_take] at this
  refine ⟨by omega, fun y hy => ?_⟩
  have hm : y.nd ∈ la.map Nv.nd := List.mem_map.2 ⟨y, hy, rfl⟩
  rw [h] at hm
  obtain ⟨z, _, hz⟩ := List.mem_map.1 hm
  rw [← hz]
  show (z.nd.ks.take 60).length ≤ _
  rw [List.length_take]
  omega
set_option maxRecDepth 100000 in
set_option maxHeartbeats 32000000 in
theorem sameLaw_ok {M : List Nat} {w0 w : World} {R : List Ent} {v u : Value} {l m : List Nv} (hst : St M w0 w R) (hv : RdT R v l) (hu : RdT R u m) (hm : Mx w)
    (zl : ∀ y ∈ l, y.nd.ks.length ≤ 1048576) (zm : ∀ y ∈ m, y.nd.ks.length ≤ 1048576) (nl : ∀ y ∈ l, y.nd.ty.length ≤ 9223372036854775807 ∧ y.nd.tx.length ≤ 9223372036854775807) (nm : ∀ y ∈ m, y.nd.ty.length ≤ 9223372036854775807 ∧ y.nd.tx.length ≤ 9223372036854775807)
    (ll : l.length ≤ 9223372036854775807) (lm : m.length ≤ 9223372036854775807) :
    Calls Try.prog 7 #[.agg [v].toArray, .agg [u].toArray] w (Give (.bool true) w) := by
  have hv' : RdT (ro R) v l := ⟨hv.1.ro, fun y hy => (hv.2 y hy).ro⟩
  have hu' : RdT (ro R) u m := ⟨hu.1.ro, fun y hy => (hu.2 y hy).ro⟩
  obtain ⟨p, c, rfl⟩ := hv.1.len
  obtain ⟨q, d, rfl⟩ := hu.1.len
  refine give_of_W (vs := [.agg [.slice p l.length c].toArray, .agg [.slice q m.length d].toArray]) Try.func7 rfl Try.ntmps7 (Nat.le_of_ble_eq_true rfl) hst.reads ?_
  simp only [argL]
  have hfa : ∀ {M : List Nat} {w0 : World} {H : List Ent} (w' : World), St M w0 w' H → (∀ p ∈ ro R, p ∈ H) → Calls Try.prog 15 #[.agg [.slice p l.length c].toArray] w' (GivesS (fun x : Value × List Ent => .agg [x.1].toArray) (fun x => ∃ l', l'.map Nv.nd = (l.take 300).map (fun y => cutN y.nd) ∧ RdT x.2 x.1 l' ∧ x.1.oneCell' = true) M w0 fun x => H ++ x.2) := fun w' hs hm => short_ok hs (hv'.mono hm) zl nl ll
  have hfb : ∀ {M : List Nat} {w0 : World} {H : List Ent} (w' : World), St M w0 w' H → (∀ p ∈ ro R, p ∈ H) → Calls Try.prog 15 #[.agg [.slice q m.length d].toArray] w' (GivesS (fun x : Value × List Ent => .agg [x.1].toArray) (fun x => ∃ l', l'.map Nv.nd = (m.take 300).map (fun y => cutN y.nd) ∧ RdT x.2 x.1 l' ∧ x.1.oneCell' = true) M w0 fun x => H ++ x.2) := fun w' hs hm => short_ok hs (hu'.mono hm) zm nm lm
  have hsp : ∀ {M : List Nat} {w0 : World} {H A B : List Ent} {av bv : Value} {la lb : List Nv} {E : Bool} {w' : World}, St M w0 w' H → RdT A av la → RdT B bv lb → la.map Nv.nd = (l.take 300).map (fun y => cutN y.nd) → decide (coreL la = coreL lb) = E → (∀ p ∈ A, p ∈ H) → (∀ p ∈ B, p ∈ H) → Calls Try.prog 16 #[.agg [av].toArray, .agg [bv].toArray] w' (Give (.bool E) w') := fun hs ha hb h1 hE m1 m2 => by
    rw [← hE]
    exact sameT_ok hs (ha.mono m1) (hb.mono m2) (cut_sizes h1).1 (cut_sizes h1).2
  have hsr : ∀ {M : List Nat} {w0 : World} {H A B : List Ent} {av bv : Value} {la lb : List Nv} {E : Bool} {w' : World}, St M w0 w' H → RdT A av la → RdT B bv lb → la.map Nv.nd = (l.take 300).map (fun y => cutN y.nd) → decide (coreL la = coreL lb) = E → (∀ p ∈ A, p ∈ H) → (∀ p ∈ B, p ∈ H) → Calls Try.prog 17 #[.agg [av].toArray, .agg [bv].toArray] w' (Give (.bool E) w') := fun hs ha hb h1 hE m1 m2 => by
    rw [← hE]
    exact sameR_ok hs (ha.mono m1) (hb.mono m2) (cut_sizes h1).1 (cut_sizes h1).2
  have hcp : ∀ {M : List Nat} {w0 : World} {H A : List Ent} {av : Value} {la : List Nv} {w' : World}, St M w0 w' H → RdT A av la → la.map Nv.nd = (l.take 300).map (fun y => cutN y.nd) → (∀ p ∈ A, p ∈ H) → Calls Try.prog 18 #[.agg [av].toArray] w' (GivesS (fun x : List Nk × Ow => .agg [ownV x.1.length x.2].toArray) (fun x => x.1.map Prod.fst = la.map Nv.nd ∧ ownOk x.1.length 6 (ndsC x.1) x.2 ∧ ndKok x.1) M w0 fun x => (H ++ ndKH x.1) ++ ownH 38 x.2) := fun hs ha h1 m1 => copied_ok hs (ha.mono m1) (cut_sizes h1).1 (cut_sizes h1).2
  have hsc : ∀ {M : List Nat} {w0 : World} {H A : List Ent} {av : Value} {la : List Nv} {N : List Nk} {o : Ow} {w' : World}, St M w0 w' H → RdT A av la → la.map Nv.nd = (l.take 300).map (fun y => cutN y.nd) → N.map Prod.fst = la.map Nv.nd → ownOk N.length 6 (ndsC N) o → ndKok N → (∀ p ∈ A, p ∈ H) → (∀ p ∈ ndKH N, p ∈ H) → (∀ p ∈ ownH 38 o, p ∈ H) → Calls Try.prog 16 #[.agg [av].toArray, .agg [ownV N.length o].toArray] w' (Give (.bool true) w') := fun hs ha h1 k1 k2 k3 m1 m2 m3 => by
    have := sameT_ok hs (ha.mono m1) (RdT_nk k2 k3 m2 m3) (cut_sizes h1).1 (cut_sizes h1).2
    rwa [decide_eq_true (coreL_nk k1)] at this
  repeat' (first | (apply gL; first | (apply Wl.ev rfl rfl; (focus (first | exact ev_move rfl | (apply gLoa; first | exact ev_loadWhole (agT rfl) (szT rfl) rfl (by repeat (first | exact List.Mem.head _ | apply List.Mem.tail)) rfl) | exact ev_assign rfl | exact ev_pickT rfl rfl | (apply gBin; first | exact ev_eqb_self (boolT rfl) rfl rfl) | exact ev_notT rfl))) | ((show Wl _ _ _ _ _ _ _ (⟨_, .call ⟨.value (.func 8), _, _⟩, _, _, _, _⟩ :: _) _ _); refine wl_call0 rfl rfl has8 rfl (fun w hs => wakesP_ok w (hm.st hs (by simp))) ?_) | ((show Wl _ _ _ _ _ _ _ (⟨some 2, .box _ _, _, _, _, _⟩ :: _) _ _); refine wl_box rfl rfl rfl rfl ?_; intro b2) | ((show Wl _ _ _ _ _ _ _ (⟨some 3, .box _ _, _, _, _, _⟩ :: _) _ _); refine wl_box rfl rfl rfl rfl ?_; intro b3) | ((show Wl _ _ _ _ _ _ _ (⟨some 8, .call ⟨.value (.func 15), _, _⟩, _, _, _, _⟩ :: _) _ _); refine wl_callS rfl rfl has15 rfl (fun w hs => hfa w hs (fun p hp => by simp [hp])) ?_; rintro ⟨av, A⟩ ⟨la, ha1, ha2, ha3⟩; dsimp only at ha1 ha2 ha3 ⊢; try simp only [List.cons_append]) | ((show Wl _ _ _ _ _ _ _ (⟨some 10, .call ⟨.value (.func 15), _, _⟩, _, _, _, _⟩ :: _) _ _); refine wl_callS rfl rfl has15 rfl (fun w hs => hfb w hs (fun p hp => by simp [hp])) ?_; rintro ⟨bv, B⟩ ⟨lb, hb1, hb2, hb3⟩; dsimp only at hb1 hb2 hb3 ⊢; try simp only [List.cons_append]) | ((show Wl _ _ _ _ _ _ _ (⟨some 13, .call _, _, _, _, _⟩ :: _) _ _); refine wl_call0 rfl rfl has16 rfl (fun w hs => hsp hs ha2 hb2 ha1 hE (fun p hp => by simp [hp]) (fun p hp => by simp [hp])) ?_) | ((show Wl _ _ _ _ _ _ _ (⟨some 16, .call _, _, _, _, _⟩ :: _) _ _); refine wl_call0 rfl rfl has17 rfl (fun w hs => hsr hs ha2 hb2 ha1 hE (fun p hp => by simp [hp]) (fun p hp => by simp [hp])) ?_) | ((show Wl _ _ _ _ _ _ _ (⟨some 21, .call _, _, _, _, _⟩ :: _) _ _); refine wl_callS rfl rfl has18 rfl (fun w hs => hcp hs ha2 ha1 (fun p hp => by simp [hp])) ?_; rintro ⟨NN, oc⟩ ⟨k1, k2, k3⟩; dsimp only at k1 k2 k3 ⊢; try simp only [List.cons_append]) | ((show Wl _ _ _ _ _ _ _ (⟨some 22, .call _, _, _, _, _⟩ :: _) _ _); refine wl_call0 rfl rfl has16 rfl (fun w hs => hsc hs ha2 ha1 k1 k2 k3 (fun p hp => by simp [hp]) (fun p hp => by simp [hp]) (fun p hp => by simp [hp])) ?_) | (refine wl_storeWhole rfl rfl rfl (szT rfl) (by repeat (first | rfl | exact ha3 | exact hb3 | refine all_one_cons ?_ ?_)) (by repeat (first | exact Upd.here | apply Upd.there | apply Upd.app)) (by rfl) ?_) | apply Wl.nil) | (apply gQ; first | (apply Wq.ev rfl rfl; (focus (first | exact ev_move rfl | (apply gLoa; first | exact ev_loadWhole (agT rfl) (szT rfl) rfl (by repeat (first | exact List.Mem.head _ | apply List.Mem.tail)) rfl) | exact ev_assign rfl | exact ev_pickT rfl rfl | (apply gBin; first | exact ev_eqb_self (boolT rfl) rfl rfl) | exact ev_notT rfl)))) | ((show W _ _ _ _ _ _ _ _ _); first | apply W.seq | ((show W _ _ _ _ _ _ (.inl (.region 3 _ true) :: _) _ _); refine W.regionJ [4, 5] [] [⟨b3, true, row [.slice q m.length d] 32⟩, ⟨b2, true, row [.slice p l.length c] 32⟩] mixed ?_) | ((show W _ _ _ _ _ _ (.inl (.region 4 _ true) :: _) _ _); obtain ⟨E, hE⟩ : ∃ E, decide (coreL la = coreL lb) = E := ⟨_, rfl⟩; refine W.regionJ [] [⟨b3, true, row [bv] 32⟩, ⟨b2, true, row [av] 32⟩] [⟨b3, true, row [bv] 32⟩, ⟨b2, true, row [av] 32⟩] mixed ?_) | apply W.region | apply W.skip | (refine W.condF rfl ?_) | (refine W.ret1 rfl rfl ?_; intro w hs)) | ((show Wj _ _ _ _ _ _ _ _ _ _ _ _ _ _ _); first | ((refine Wj.all (by rfl) (by decide +kernel) ?_)) | (refine Wj.done (by decide +kernel) ?_) | (refine Wj.not (by decide +kernel) ?_) | (refine Wj.skip1 (by kernel_rfl) rfl (by kernel_rfl) (by decide +kernel) (by decide) rfl rfl (by repeat (first | exact SubH.nil | apply SubH.keep | apply SubH.drop | exact List.Sublist.refl _ | apply SubH.app)) (by repeat (first | exact SubH.nil | apply SubH.keep | apply SubH.drop | exact List.Sublist.refl _ | apply SubH.app)) ?_) | (refine Wj.take1 (by kernel_rfl) rfl (by kernel_rfl) (by decide +kernel) (by decide) rfl rfl (by first | exact ev_move rfl | (apply gLoa; first | exact ev_loadWhole (agT rfl) (szT rfl) rfl (by repeat (first | exact List.Mem.head _ | apply List.Mem.tail)) rfl) | exact ev_assign rfl | exact ev_pickT rfl rfl | (apply gBin; first | exact ev_eqb_self (boolT rfl) rfl rfl) | exact ev_notT rfl) (by repeat (first | exact SubH.nil | apply SubH.keep | apply SubH.drop | exact List.Sublist.refl _ | apply SubH.app)) (by repeat (first | exact SubH.nil | apply SubH.keep | apply SubH.drop | exact List.Sublist.refl _ | apply SubH.app)) ?_) | (refine Wj.take0 (by kernel_rfl) rfl (by kernel_rfl) (by decide +kernel) (by decide +kernel) (by decide) (by decide) rfl rfl (by first | exact ev_move rfl | (apply gLoa; first | exact ev_loadWhole (agT rfl) (szT rfl) rfl (by repeat (first | exact List.Mem.head _ | apply List.Mem.tail)) rfl) | exact ev_assign rfl | exact ev_pickT rfl rfl | (apply gBin; first | exact ev_eqb_self (boolT rfl) rfl rfl) | exact ev_notT rfl) (by repeat (first | exact SubH.nil | apply SubH.keep | apply SubH.drop | exact List.Sublist.refl _ | apply SubH.app)) (by repeat (first | exact SubH.nil | apply SubH.keep | apply SubH.drop | exact List.Sublist.refl _ | apply SubH.app)) ?_) | ((fail_if_success (refine Wj.chk rfl rfl ?_)); (refine Wj.split (by kernel_rfl) rfl rfl rfl ?_ ?_ <;> (intro h; try (exfalso; first | contradiction | omega | exact h rfl | exact h ⟨rfl, rfl⟩ | (exact Bool.false_ne_true ((by assumption : _ = false).symm.trans h)) | (exact Bool.false_ne_true (h.symm.trans (by assumption))))))) | ((fail_if_success (refine Wj.chk rfl rfl ?_)); (refine Wj.splitB (by kernel_rfl) rfl rfl rfl ?_ ?_ <;> (intro h; try (exfalso; first | contradiction | omega | exact h rfl | exact h ⟨rfl, rfl⟩ | (exact Bool.false_ne_true ((by assumption : _ = false).symm.trans h)) | (exact Bool.false_ne_true (h.symm.trans (by assumption))))))) | apply Wj.next) | apply AllO.nil | apply AllO.cons | (refine Or.inl (by decide +kernel)) | ((show _ ∨ Wl _ _ _ _ _ _ _ _ _ _); apply Or.inr) | (refine Wl.nilJ (by repeat (first | exact SubH.nil | apply SubH.keep | apply SubH.drop | exact List.Sublist.refl _ | apply SubH.app)) (by repeat (first | exact SubH.nil | apply SubH.keep | apply SubH.drop | exact List.Sublist.refl _ | apply SubH.app)) ?_))
  all_goals first
    | exact ret_eq hs rfl
    | exact ret_eq hs (congrArg Value.bool (by simp))
    | contradiction
    | (exfalso; omega)
    | fail
end Go.Proofs.Ytbinaeemcidicaa
