/- Walks: a loop. No condition. -/
import Derived.Test.YtbinaeemcidicaaZPV
namespace Go.Proofs.Ytbinaeemcidicaa
open Go.PB Go.RowKit
attribute [local irreducible] Go.Calls
theorem ptakeR_ok {M : List Nat} {w0 w : World} {H H' TR R : List Ent} {r a : Nat} {lv fv : Value} {L l : List Ti} {p : Ti → Bool} {t : Ti} (hp : PredE fv p R) (hst : St M w0 w H) (hR : ∀ e ∈ R, e ∈ H) (hRr : ∀ e ∈ R, e ≠ ⟨r, true, rdP lv a⟩)
    (hu : Upd H r (rdP lv a) (rdP lv (a + 1)) H') (hT : TokE TR r lv L) (hm : ∀ p ∈ TR, p ∈ H) (hl : At L a (t :: l)) (ht : p t = true) :
    Calls Try.prog 47 #[ptr r, fv] w (GivesS (fun _ : Unit => tiV t) (fun _ => True) M w0 fun _ => H') := take_ok hst hp hR hRr hu hT hm hl.2 ht
theorem ptakeR_bad {M : List Nat} {w0 w : World} {H TR R : List Ent} {r a : Nat} {lv fv : Value} {L l : List Ti} {p : Ti → Bool} (hp : PredE fv p R) (hst : St M w0 w H) (hR : ∀ e ∈ R, e ∈ H)
    (hr : (⟨r, true, rdP lv a⟩ : Ent) ∈ H) (hT : TokE TR r lv L) (hm : ∀ p ∈ TR, p ∈ H) (hl : At L a l) (ht : okT p l = false) :
    Calls Try.prog 47 #[ptr r, fv] w (BadS wrongC M w0 H) := take_bad hst hp hR hr hT hm hl.1 (ok_bad hl ht)
abbrev samP (nm : List UInt8) (u : Ti) : Bool := namedT u && decide (u.t = nm)
set_option maxRecDepth 100000 in
theorem same1_ok {M : List Nat} {w0 w : World} {H : List Ent} {b : Nat} {wr : Bool} (s : List UInt8) (t : Ti) (hst : St M w0 w H) (hb : (⟨b, wr, row [st s] 9⟩ : Ent) ∈ H) :
    Calls Try.prog 89 #[tiV t, ptr b] w (Give (.bool (samP s t)) w) := by
  have hr := mem_ro hb
  refine give_of_W (vs := [tiV t, ptr b]) Try.func89 rfl Try.ntmps89 (Nat.le_of_ble_eq_true rfl) hst.reads ?_
  simp only [argL]
  have h2 : ∀ w, Calls Try.prog 49 #[tiV t] w (Give (.bool (namedT t)) w) := named_ok t
  unfold samP
  obtain ⟨q, hq⟩ : ∃ q, namedT t = q := ⟨_, rfl⟩
  rw [hq] at h2 ⊢
  clear hq
  obtain ⟨k, tx, x, a, n⟩ := t
  dsimp only [tiV, tiC] at h2 ⊢
  cases q
  · repeat' (first | (apply gL; first | (apply Wl.ev rfl rfl; (focus (first | exact ev_move rfl | (apply gLoa; first | exact ev_loadWhole (agT rfl) (szT rfl) rfl (by repeat (first | exact List.Mem.head _ | apply List.Mem.tail)) rfl) | exact ev_assign rfl | exact ev_pickF rfl rfl))) | ((show Wl _ _ _ _ _ _ _ (⟨some _, .box _ _, _, _, _, _⟩ :: _) _ _); refine wl_box rfl rfl rfl rfl ?_; intro bt) | ((show Wl _ _ _ _ _ _ _ (⟨_, .call ⟨.value (.func 49), _, _⟩, _, _, _, _⟩ :: _) _ _); refine wl_call0 rfl rfl has49 rfl (fun w hs => h2 w) ?_) | apply Wl.nil | (refine Wl.skip rfl rfl ?_)) | (apply gQ; first | (apply Wq.ev rfl rfl; (focus (first | exact ev_move rfl | (apply gLoa; first | exact ev_loadWhole (agT rfl) (szT rfl) rfl (by repeat (first | exact List.Mem.head _ | apply List.Mem.tail)) rfl) | exact ev_assign rfl | exact ev_pickF rfl rfl)))) | ((show W _ _ _ _ _ _ _ _ _); first | apply W.seq | apply W.region | (refine W.ret1 rfl rfl ?_; intro w hs)))
    all_goals first | exact ret_eq hs rfl | contradiction | fail
  · repeat' (first | (apply gL; first | (apply Wl.ev rfl rfl; (focus (first | exact ev_move rfl | (apply gLoa; first | exact ev_load (agT rfl) rfl (by repeat (first | exact hr | apply List.Mem.tail)) rfl | exact ev_load (agT rfl) rfl (by repeat (first | exact List.Mem.head _ | apply List.Mem.tail)) rfl | exact ev_loadWhole (agT rfl) (szT rfl) rfl (by repeat (first | exact List.Mem.head _ | apply List.Mem.tail)) rfl) | (apply gFie; first | exact ev_fieldAddr0 (fldT rfl) rfl) | exact ev_assign rfl | exact ev_pickT rfl rfl | exact ev_eqs rfl rfl))) | ((show Wl _ _ _ _ _ _ _ (⟨some _, .box _ _, _, _, _, _⟩ :: _) _ _); refine wl_box rfl rfl rfl rfl ?_; intro bt) | ((show Wl _ _ _ _ _ _ _ (⟨_, .call ⟨.value (.func 49), _, _⟩, _, _, _, _⟩ :: _) _ _); refine wl_call0 rfl rfl has49 rfl (fun w hs => h2 w) ?_) | apply Wl.nil) | (apply gQ; first | (apply Wq.ev rfl rfl; (focus (first | exact ev_move rfl | (apply gLoa; first | exact ev_load (agT rfl) rfl (by repeat (first | exact hr | apply List.Mem.tail)) rfl | exact ev_load (agT rfl) rfl (by repeat (first | exact List.Mem.head _ | apply List.Mem.tail)) rfl | exact ev_loadWhole (agT rfl) (szT rfl) rfl (by repeat (first | exact List.Mem.head _ | apply List.Mem.tail)) rfl) | (apply gFie; first | exact ev_fieldAddr0 (fldT rfl) rfl) | exact ev_assign rfl | exact ev_pickT rfl rfl | exact ev_eqs rfl rfl)))) | ((show W _ _ _ _ _ _ _ _ _); first | apply W.seq | apply W.region | (refine W.ret1 rfl rfl ?_; intro w hs)))
    all_goals first | exact ret_eq hs rfl | exact ret_eq hs (by simp; done) | contradiction | (exact ret_eq hs (congrArg Value.bool (by rw [Bool.true_and]))) | fail
theorem same_pred (s : List UInt8) (b : Nat) : PredE (fnV 89 [] [ptr b]) (samP s) [⟨b, true, row [st s] 9⟩] :=
  ⟨_, _, rfl, has89, fun t hst hm => same1_ok s t hst (hm _ (List.Mem.head _))⟩
theorem str_no_rd' {q r a : Nat} {l : List Value} {lv : Value} : ∀ e ∈ [(⟨q, true, row l 9⟩ : Ent)], e ≠ ⟨r, true, rdP lv a⟩ := fun e he => by
  rw [List.mem_singleton.1 he]
  exact str_no_rd
theorem mem_one {p : Ent} {H : List Ent} (h : p ∈ H) : ∀ e ∈ [p], e ∈ H := fun e he => by
  rw [List.mem_singleton.1 he]
  exact h
set_option maxRecDepth 100000 in
set_option maxHeartbeats 16000000 in
theorem loop_step {f : Nat} (ihb : NodeC f .bnd 90 []) (ihs : NodeC f .stmt 79 []) : NodeC (f + 1) .loop 86 [] := by
  intro M w0 w H K TR r a lv L l0 l' o hst hu hT hm a0 e
  (obtain ⟨A, p1, p2⟩ := hu.front; have hTA : ∀ e ∈ TR, e ∈ A := fun e he => mem_front p1 (hm e he) (hT.2.1 e he); have hst1 := hst.perm p1; have hlim := hT.2.2.1)
  rw [pF] at e
  rcases tk_cases (isA [[102, 111, 114]]) l0 with ⟨t1, l1, rfl, c1⟩ | c1
  rotate_left
  rw [tkP_bad c1] at e
  cases e
  rw [← a0.len] at p2
  rotate_right
  rw [tkP_ok c1] at e
  have a1 := a0.next
  rcases tk_cases (isA [[40]]) l1 with ⟨t2, l2, rfl, c2⟩ | c2
  rotate_left
  rw [tkP_bad c2] at e
  cases e
  rw [← a1.len] at p2
  rotate_right
  rw [tkP_ok c2] at e
  have a2 := a1.next
  rcases tk_cases (isA [[105, 110, 116]]) l2 with ⟨t3, l3, rfl, c3⟩ | c3
  rotate_left
  rw [tkP_bad c3] at e
  cases e
  rw [← a2.len] at p2
  rotate_right
  rw [tkP_ok c3] at e
  have a3 := a2.next
  rcases tk_cases (namedT) l3 with ⟨t4, l4, rfl, c4⟩ | c4
  rotate_left
  rw [tkP_bad c4] at e
  cases e
  rw [← a3.len] at p2
  rotate_right
  rw [tkP_ok c4] at e
  have a4 := a3.next
  rcases tk_cases (isA [[61]]) l4 with ⟨t5, l5, rfl, c5⟩ | c5
  rotate_left
  rw [tkP_bad c5] at e
  cases e
  rw [← a4.len] at p2
  rotate_right
  rw [tkP_ok c5] at e
  have a5 := a4.next
  rcases bnd_cases e with ⟨e6, rfl⟩ | ⟨p6, l6, e6, e⟩
  rotate_left
  have a6 := a5.step e6
  rcases tk_cases (isA [[59]]) l6 with ⟨t7, l7, rfl, c7⟩ | c7
  rotate_left
  rw [tkP_bad c7] at e
  cases e
  rw [← a6.len] at p2
  rotate_right
  rw [tkP_ok c7] at e
  have a7 := a6.next
  rcases tk_cases (samP t4.t) l7 with ⟨t8, l8, rfl, c8⟩ | c8
  rotate_left
  rw [tkP_bad c8] at e
  cases e
  rw [← a7.len] at p2
  rotate_right
  rw [tkP_ok c8] at e
  have a8 := a7.next
  rcases tk_cases (isA [[60]]) l8 with ⟨t9, l9, rfl, c9⟩ | c9
  rotate_left
  rw [tkP_bad c9] at e
  cases e
  rw [← a8.len] at p2
  rotate_right
  rw [tkP_ok c9] at e
  have a9 := a8.next
  rcases bnd_cases e with ⟨e10, rfl⟩ | ⟨p10, l10, e10, e⟩
  rotate_left
  have a10 := a9.step e10
  rcases tk_cases (isA [[59]]) l10 with ⟨t11, l11, rfl, c11⟩ | c11
  rotate_left
  rw [tkP_bad c11] at e
  cases e
  rw [← a10.len] at p2
  rotate_right
  rw [tkP_ok c11] at e
  have a11 := a10.next
  rcases tk_cases (samP t4.t) l11 with ⟨t12, l12, rfl, c12⟩ | c12
  rotate_left
  rw [tkP_bad c12] at e
  cases e
  rw [← a11.len] at p2
  rotate_right
  rw [tkP_ok c12] at e
  have a12 := a11.next
  rcases tk_cases (isA [[43, 43]]) l12 with ⟨t13, l13, rfl, c13⟩ | c13
  rotate_left
  rw [tkP_bad c13] at e
  cases e
  rw [← a12.len] at p2
  rotate_right
  rw [tkP_ok c13] at e
  have a13 := a12.next
  rcases tk_cases (isA [[41]]) l13 with ⟨t14, l14, rfl, c14⟩ | c14
  rotate_left
  rw [tkP_bad c14] at e
  cases e
  rw [← a13.len] at p2
  rotate_right
  rw [tkP_ok c14] at e
  have a14 := a13.next
  rcases bnd_cases e with ⟨e15, rfl⟩ | ⟨p15, l15, e15, e⟩
  rotate_left
  have a15 := a14.step e15
  cases e
  · (refine calls_of_W (vs := [ptr r]) Try.func86 rfl Try.ntmps86 (Nat.le_of_ble_eq_true rfl) hst1.fromHere ?_; simp only [argL])
    repeat' (first | (apply gL; first | (apply Wl.ev rfl rfl; (focus (first | exact ev_move rfl | (apply gLoa; first | exact ev_load (agT rfl) rfl (by repeat (first | exact List.Mem.head _ | apply List.Mem.tail)) rfl | exact ev_loadWhole (agT rfl) (szT rfl) rfl (by repeat (first | exact List.Mem.head _ | apply List.Mem.tail)) rfl) | exact ev_assign rfl | (apply gFld; first | exact ev_field (fldT rfl) (agT rfl) rfl rfl) | exact ev_makeFunc2 rfl rfl))) | ((show Wl _ _ _ _ _ _ _ (⟨some 3, .alloc _, _, _, _, _⟩ :: _) _ _); refine wl_alloc rfl rfl (zeroT rfl) ?_; intro b3) | ((show Wl _ _ _ _ _ _ _ (⟨some 4, .alloc _, _, _, _, _⟩ :: _) _ _); refine wl_alloc rfl rfl (zeroT rfl) ?_; intro b4) | (refine wl_storeWhole rfl rfl rfl (szT rfl) (by repeat (first | rfl | refine all_one_cons ?_ ?_)) (by repeat (first | exact Upd.here | apply Upd.there)) (by rfl) ?_) | ((show Wl _ _ _ _ _ _ _ (⟨some 15, .call ⟨.value (.func 47), _, _⟩, _, _, _, _⟩ :: _) _ _); first | (refine wl_callS rfl rfl has47 rfl (fun w hs => ptake_ok named_pred hs (by repeat (first | exact Upd.here | apply Upd.there)) hT (by intro p hp; repeat (first | exact hTA p hp | apply List.Mem.tail | apply List.mem_append_left)) (by assumption) (by assumption)) ?_; intro q hq; clear hq q) | (refine wl_callB0 rfl has47 rfl (fun w hs => ptake_bad named_pred hs (by repeat (first | exact List.Mem.head _ | apply List.Mem.tail)) hT (by intro p hp; repeat (first | exact hTA p hp | apply List.Mem.tail | apply List.mem_append_left)) (by assumption) (by assumption)) ?_; (first | refine bad_end ?_ | refine bad_endM ?_); intro w hs)) | ((show Wl _ _ _ _ _ _ _ (⟨some 26, .call ⟨.value (.func 47), _, _⟩, _, _, _, _⟩ :: _) _ _); (first | (refine wl_callS rfl rfl has47 rfl (fun w hs => ptakeR_ok (same_pred _ b4) hs (mem_one (by repeat (first | exact List.Mem.head _ | apply List.Mem.tail))) str_no_rd' (by repeat (first | exact Upd.here | apply Upd.there)) hT (by intro p hp; repeat (first | exact hTA p hp | apply List.Mem.tail | apply List.mem_append_left)) (by assumption) (by assumption)) ?_; intro q9 hq9; clear hq9 q9) | (refine wl_callB0 rfl has47 rfl (fun w hs => ptakeR_bad (same_pred _ b4) hs (mem_one (by repeat (first | exact List.Mem.head _ | apply List.Mem.tail))) (by repeat (first | exact List.Mem.head _ | apply List.Mem.tail)) hT (by intro p hp; repeat (first | exact hTA p hp | apply List.Mem.tail | apply List.mem_append_left)) (by assumption) (by assumption)) ?_; refine bad_end ?_; intro w hs))) | ((show Wl _ _ _ _ _ _ _ (⟨some 35, .call ⟨.value (.func 47), _, _⟩, _, _, _, _⟩ :: _) _ _); (first | (refine wl_callS rfl rfl has47 rfl (fun w hs => ptakeR_ok (same_pred _ b4) hs (mem_one (by repeat (first | exact List.Mem.head _ | apply List.Mem.tail))) str_no_rd' (by repeat (first | exact Upd.here | apply Upd.there)) hT (by intro p hp; repeat (first | exact hTA p hp | apply List.Mem.tail | apply List.mem_append_left)) (by assumption) (by assumption)) ?_; intro q9 hq9; clear hq9 q9) | (refine wl_callB0 rfl has47 rfl (fun w hs => ptakeR_bad (same_pred _ b4) hs (mem_one (by repeat (first | exact List.Mem.head _ | apply List.Mem.tail))) (by repeat (first | exact List.Mem.head _ | apply List.Mem.tail)) hT (by intro p hp; repeat (first | exact hTA p hp | apply List.Mem.tail | apply List.mem_append_left)) (by assumption) (by assumption)) ?_; refine bad_end ?_; intro w hs))) | ((show Wl _ _ _ _ _ _ _ (⟨some 21, .call ⟨.value (.func 90), _, _⟩, _, _, _, _⟩ :: _) _ _); first | (refine wl_callS rfl rfl has90 rfl (fun w hs => node_ok ihb hs e6 (by assumption) (by repeat (first | exact UpdT.here | apply UpdT.there)) hT (by intro p hp; repeat (first | exact hTA p hp | apply List.Mem.tail | apply List.mem_append_left))) ?_; rintro n1 ⟨hok1, hp1⟩) | (refine wl_callB0 rfl has90 rfl (fun w hs => node_bad ihb hs e6 (by assumption) (by repeat (first | exact UpdT.here | apply UpdT.there)) hT (by intro p hp; repeat (first | exact hTA p hp | apply List.Mem.tail | apply List.mem_append_left))) ?_; (first | refine bad_end ?_ | refine bad_endM ?_); intro w hs)) | ((show Wl _ _ _ _ _ _ _ (⟨some 30, .call ⟨.value (.func 90), _, _⟩, _, _, _, _⟩ :: _) _ _); first | (refine wl_callS rfl rfl has90 rfl (fun w hs => node_ok ihb hs e10 (by assumption) (by repeat (first | exact UpdT.here | apply UpdT.there)) hT (by intro p hp; repeat (first | exact hTA p hp | apply List.Mem.tail | apply List.mem_append_left))) ?_; rintro n2 ⟨hok2, hp2⟩) | (refine wl_callB0 rfl has90 rfl (fun w hs => node_bad ihb hs e10 (by assumption) (by repeat (first | exact UpdT.here | apply UpdT.there)) hT (by intro p hp; repeat (first | exact hTA p hp | apply List.Mem.tail | apply List.mem_append_left))) ?_; (first | refine bad_end ?_ | refine bad_endM ?_); intro w hs)) | ((show Wl _ _ _ _ _ _ _ (⟨some 45, .call ⟨.value (.func 79), _, _⟩, _, _, _, _⟩ :: _) _ _); first | (refine wl_callS rfl rfl has79 rfl (fun w hs => node_ok ihs hs e15 (by assumption) (by repeat (first | exact UpdT.here | apply UpdT.there)) hT (by intro p hp; repeat (first | exact hTA p hp | apply List.Mem.tail | apply List.mem_append_left))) ?_; rintro n3 ⟨hok3, hp3⟩) | (refine wl_callB0 rfl has79 rfl (fun w hs => node_bad ihs hs e15 (by assumption) (by repeat (first | exact UpdT.here | apply UpdT.there)) hT (by intro p hp; repeat (first | exact hTA p hp | apply List.Mem.tail | apply List.mem_append_left))) ?_; (first | refine bad_end ?_ | refine bad_endM ?_); intro w hs)) | ((show Wl _ _ _ _ _ _ _ (⟨some 47, .call ⟨.value (.func 61), _, _⟩, _, _, _, _⟩ :: _) _ _); refine wl_callS rfl rfl has61 rfl (fun w hs => pmade hs _ _ _ _ _ _) ?_; intro bn hq; clear hq) | ((show Wl _ _ _ _ _ _ _ (⟨some _, .call ⟨.value (.func 62), _, _⟩, _, _, _, _⟩ :: _) _ _); first | (refine wl_callS rfl rfl has62 rfl (fun w hs => psg_ok hs (by repeat (first | exact Upd.here | apply Upd.there)) hT (by intro p hp; repeat (first | exact hTA p hp | apply List.Mem.tail | apply List.mem_append_left)) (by assumption) (by assumption)) ?_; intro q hq; clear hq q) | (refine wl_callB0 rfl has62 rfl (fun w hs => psg_bad hs (by repeat (first | exact List.Mem.head _ | apply List.Mem.tail)) hT (by intro p hp; repeat (first | exact hTA p hp | apply List.Mem.tail | apply List.mem_append_left)) (by assumption) (by assumption)) ?_; (first | refine bad_end ?_ | refine bad_endM ?_); intro w hs)) | apply Wl.nil | (refine wl_store1 rfl rfl rfl rfl (szT rfl) (by repeat (first | exact Upd.here | apply Upd.there)) (by first | decide | (simp; done)) ?_; try simp only [List.set]) | (apply wl_buildSlice rfl rfl (slT rfl) (szT rfl) (zeroT rfl) rfl (by decide) rfl; (focus (simp [fillP, List.range_succ]; rfl)); intro b)) | (apply gQ; first | (apply Wq.ev rfl rfl; (focus (first | exact ev_move rfl | (apply gLoa; first | exact ev_load (agT rfl) rfl (by repeat (first | exact List.Mem.head _ | apply List.Mem.tail)) rfl | exact ev_loadWhole (agT rfl) (szT rfl) rfl (by repeat (first | exact List.Mem.head _ | apply List.Mem.tail)) rfl) | exact ev_assign rfl | (apply gFld; first | exact ev_field (fldT rfl) (agT rfl) rfl rfl) | exact ev_makeFunc2 rfl rfl)))) | ((show W _ _ _ _ _ _ _ _ _); first | apply W.seq | ((show W _ _ _ _ _ _ (.inl (.region 16 _ true) :: _) _ _); refine W.regionM [] [⟨b4, true, row [st t4.t] 9⟩, ⟨b3, true, row (tiC t1) 41⟩] [⟨b4, true, row [st t4.t] 9⟩, ⟨b3, true, row (tiC t1) 41⟩] mixed ?_) | apply W.region | (refine W.ret1 rfl rfl ?_; intro w hs)) | ((show Wm _ _ _ _ _ _ _ _ _ _ _ _ _ _ _ _); first | ((refine Wm.all (by rfl) (by decide +kernel) ?_)) | (refine Wm.done (by decide +kernel) ?_) | (refine Wm.not (by decide +kernel) ?_) | (refine Wm.skip1 (by kernel_rfl) rfl (by kernel_rfl) (by decide +kernel) (by decide) rfl rfl (by repeat (first | exact SubH.nil | apply SubH.keep | apply SubH.drop | exact List.Sublist.refl _ | exact List.sublist_append_left _ _)) (by repeat (first | exact SubH.nil | apply SubH.keep | apply SubH.drop | exact List.Sublist.refl _ | exact List.sublist_append_left _ _)) ?_) | (refine Wm.take1 (by kernel_rfl) rfl (by kernel_rfl) (by decide +kernel) (by decide) rfl rfl (by first | exact ev_move rfl | (apply gLoa; first | exact ev_load (agT rfl) rfl (by repeat (first | exact List.Mem.head _ | apply List.Mem.tail)) rfl | exact ev_loadWhole (agT rfl) (szT rfl) rfl (by repeat (first | exact List.Mem.head _ | apply List.Mem.tail)) rfl) | exact ev_assign rfl | (apply gFld; first | exact ev_field (fldT rfl) (agT rfl) rfl rfl) | exact ev_makeFunc2 rfl rfl) (by repeat (first | exact SubH.nil | apply SubH.keep | apply SubH.drop | exact List.Sublist.refl _ | exact List.sublist_append_left _ _)) (by repeat (first | exact SubH.nil | apply SubH.keep | apply SubH.drop | exact List.Sublist.refl _ | exact List.sublist_append_left _ _)) ?_) | (refine Wm.take0 (by kernel_rfl) rfl (by kernel_rfl) (by decide +kernel) (by decide +kernel) (by decide) (by decide) rfl rfl (by first | exact ev_move rfl | (apply gLoa; first | exact ev_load (agT rfl) rfl (by repeat (first | exact List.Mem.head _ | apply List.Mem.tail)) rfl | exact ev_loadWhole (agT rfl) (szT rfl) rfl (by repeat (first | exact List.Mem.head _ | apply List.Mem.tail)) rfl) | exact ev_assign rfl | (apply gFld; first | exact ev_field (fldT rfl) (agT rfl) rfl rfl) | exact ev_makeFunc2 rfl rfl) (by repeat (first | exact SubH.nil | apply SubH.keep | apply SubH.drop | exact List.Sublist.refl _ | exact List.sublist_append_left _ _)) (by repeat (first | exact SubH.nil | apply SubH.keep | apply SubH.drop | exact List.Sublist.refl _ | exact List.sublist_append_left _ _)) ?_) | ((fail_if_success (refine Wm.chk rfl rfl ?_)); (refine Wm.split (by kernel_rfl) rfl rfl rfl ?_ ?_ <;> (intro h; try (exfalso; first | contradiction | omega | exact h rfl | exact h ⟨rfl, rfl⟩ | (simp_all; done))))) | ((fail_if_success (refine Wm.chk rfl rfl ?_)); (refine Wm.splitB (by kernel_rfl) rfl rfl rfl ?_ ?_ <;> (intro h; try (exfalso; first | contradiction | omega | exact h rfl | exact h ⟨rfl, rfl⟩ | (simp_all; done))))) | apply Wm.next) | apply AllO.nil | apply AllO.cons | (refine Or.inl (by decide +kernel)) | ((show _ ∨ Wl _ _ _ _ _ _ _ _ _ _); apply Or.inr) | (refine Wl.nilM (by repeat (first | exact SubH.nil | apply SubH.keep | apply SubH.drop | exact List.Sublist.refl _ | exact List.sublist_append_left _ _)) (by repeat (first | exact SubH.nil | apply SubH.keep | apply SubH.drop | exact List.Sublist.refl _ | exact List.sublist_append_left _ _)) ?_))
    all_goals first | exact node_new (kb := b) (n := 3) hst1 hs [n1, n2, n3] _ (by simp only [tnsOk]; exact ⟨hok1, hok2, hok3, trivial⟩) (by simp only [tnsP, hp1, hp2, hp3]) rfl (show 3 ≤ 1000 by decide) (by intro e; rw [(p2 _).count_eq]; simp only [tnsH, List.append_nil, List.map_cons, List.map_nil, List.count_append, cnt_cons]; omega) | fail
  all_goals ((refine calls_of_W (vs := [ptr r]) Try.func86 rfl Try.ntmps86 (Nat.le_of_ble_eq_true rfl) hst1.fromHere ?_; simp only [argL]); (repeat' (first | (apply gL; first | (apply Wl.ev rfl rfl; (focus (first | exact ev_move rfl | (apply gLoa; first | exact ev_load (agT rfl) rfl (by repeat (first | exact List.Mem.head _ | apply List.Mem.tail)) rfl | exact ev_loadWhole (agT rfl) (szT rfl) rfl (by repeat (first | exact List.Mem.head _ | apply List.Mem.tail)) rfl) | exact ev_assign rfl | (apply gFld; first | exact ev_field (fldT rfl) (agT rfl) rfl rfl) | exact ev_makeFunc2 rfl rfl))) | ((show Wl _ _ _ _ _ _ _ (⟨some 3, .alloc _, _, _, _, _⟩ :: _) _ _); refine wl_alloc rfl rfl (zeroT rfl) ?_; intro b3) | ((show Wl _ _ _ _ _ _ _ (⟨some 4, .alloc _, _, _, _, _⟩ :: _) _ _); refine wl_alloc rfl rfl (zeroT rfl) ?_; intro b4) | (refine wl_storeWhole rfl rfl rfl (szT rfl) (by repeat (first | rfl | refine all_one_cons ?_ ?_)) (by repeat (first | exact Upd.here | apply Upd.there)) (by rfl) ?_) | ((show Wl _ _ _ _ _ _ _ (⟨some 15, .call ⟨.value (.func 47), _, _⟩, _, _, _, _⟩ :: _) _ _); first | (refine wl_callS rfl rfl has47 rfl (fun w hs => ptake_ok named_pred hs (by repeat (first | exact Upd.here | apply Upd.there)) hT (by intro p hp; repeat (first | exact hTA p hp | apply List.Mem.tail | apply List.mem_append_left)) (by assumption) (by assumption)) ?_; intro q hq; clear hq q) | (refine wl_callB0 rfl has47 rfl (fun w hs => ptake_bad named_pred hs (by repeat (first | exact List.Mem.head _ | apply List.Mem.tail)) hT (by intro p hp; repeat (first | exact hTA p hp | apply List.Mem.tail | apply List.mem_append_left)) (by assumption) (by assumption)) ?_; (first | refine bad_end ?_ | refine bad_endM ?_); intro w hs)) | ((show Wl _ _ _ _ _ _ _ (⟨some 26, .call ⟨.value (.func 47), _, _⟩, _, _, _, _⟩ :: _) _ _); (first | (refine wl_callS rfl rfl has47 rfl (fun w hs => ptakeR_ok (same_pred _ b4) hs (mem_one (by repeat (first | exact List.Mem.head _ | apply List.Mem.tail))) str_no_rd' (by repeat (first | exact Upd.here | apply Upd.there)) hT (by intro p hp; repeat (first | exact hTA p hp | apply List.Mem.tail | apply List.mem_append_left)) (by assumption) (by assumption)) ?_; intro q9 hq9; clear hq9 q9) | (refine wl_callB0 rfl has47 rfl (fun w hs => ptakeR_bad (same_pred _ b4) hs (mem_one (by repeat (first | exact List.Mem.head _ | apply List.Mem.tail))) (by repeat (first | exact List.Mem.head _ | apply List.Mem.tail)) hT (by intro p hp; repeat (first | exact hTA p hp | apply List.Mem.tail | apply List.mem_append_left)) (by assumption) (by assumption)) ?_; refine bad_end ?_; intro w hs))) | ((show Wl _ _ _ _ _ _ _ (⟨some 35, .call ⟨.value (.func 47), _, _⟩, _, _, _, _⟩ :: _) _ _); (first | (refine wl_callS rfl rfl has47 rfl (fun w hs => ptakeR_ok (same_pred _ b4) hs (mem_one (by repeat (first | exact List.Mem.head _ | apply List.Mem.tail))) str_no_rd' (by repeat (first | exact Upd.here | apply Upd.there)) hT (by intro p hp; repeat (first | exact hTA p hp | apply List.Mem.tail | apply List.mem_append_left)) (by assumption) (by assumption)) ?_; intro q9 hq9; clear hq9 q9) | (refine wl_callB0 rfl has47 rfl (fun w hs => ptakeR_bad (same_pred _ b4) hs (mem_one (by repeat (first | exact List.Mem.head _ | apply List.Mem.tail))) (by repeat (first | exact List.Mem.head _ | apply List.Mem.tail)) hT (by intro p hp; repeat (first | exact hTA p hp | apply List.Mem.tail | apply List.mem_append_left)) (by assumption) (by assumption)) ?_; refine bad_end ?_; intro w hs))) | ((show Wl _ _ _ _ _ _ _ (⟨some 21, .call ⟨.value (.func 90), _, _⟩, _, _, _, _⟩ :: _) _ _); first | (refine wl_callS rfl rfl has90 rfl (fun w hs => node_ok ihb hs e6 (by assumption) (by repeat (first | exact UpdT.here | apply UpdT.there)) hT (by intro p hp; repeat (first | exact hTA p hp | apply List.Mem.tail | apply List.mem_append_left))) ?_; rintro n1 ⟨hok1, hp1⟩) | (refine wl_callB0 rfl has90 rfl (fun w hs => node_bad ihb hs e6 (by assumption) (by repeat (first | exact UpdT.here | apply UpdT.there)) hT (by intro p hp; repeat (first | exact hTA p hp | apply List.Mem.tail | apply List.mem_append_left))) ?_; (first | refine bad_end ?_ | refine bad_endM ?_); intro w hs)) | ((show Wl _ _ _ _ _ _ _ (⟨some 30, .call ⟨.value (.func 90), _, _⟩, _, _, _, _⟩ :: _) _ _); first | (refine wl_callS rfl rfl has90 rfl (fun w hs => node_ok ihb hs e10 (by assumption) (by repeat (first | exact UpdT.here | apply UpdT.there)) hT (by intro p hp; repeat (first | exact hTA p hp | apply List.Mem.tail | apply List.mem_append_left))) ?_; rintro n2 ⟨hok2, hp2⟩) | (refine wl_callB0 rfl has90 rfl (fun w hs => node_bad ihb hs e10 (by assumption) (by repeat (first | exact UpdT.here | apply UpdT.there)) hT (by intro p hp; repeat (first | exact hTA p hp | apply List.Mem.tail | apply List.mem_append_left))) ?_; (first | refine bad_end ?_ | refine bad_endM ?_); intro w hs)) | ((show Wl _ _ _ _ _ _ _ (⟨some 45, .call ⟨.value (.func 79), _, _⟩, _, _, _, _⟩ :: _) _ _); first | (refine wl_callS rfl rfl has79 rfl (fun w hs => node_ok ihs hs e15 (by assumption) (by repeat (first | exact UpdT.here | apply UpdT.there)) hT (by intro p hp; repeat (first | exact hTA p hp | apply List.Mem.tail | apply List.mem_append_left))) ?_; rintro n3 ⟨hok3, hp3⟩) | (refine wl_callB0 rfl has79 rfl (fun w hs => node_bad ihs hs e15 (by assumption) (by repeat (first | exact UpdT.here | apply UpdT.there)) hT (by intro p hp; repeat (first | exact hTA p hp | apply List.Mem.tail | apply List.mem_append_left))) ?_; (first | refine bad_end ?_ | refine bad_endM ?_); intro w hs)) | ((show Wl _ _ _ _ _ _ _ (⟨some _, .call ⟨.value (.func 62), _, _⟩, _, _, _, _⟩ :: _) _ _); first | (refine wl_callS rfl rfl has62 rfl (fun w hs => psg_ok hs (by repeat (first | exact Upd.here | apply Upd.there)) hT (by intro p hp; repeat (first | exact hTA p hp | apply List.Mem.tail | apply List.mem_append_left)) (by assumption) (by assumption)) ?_; intro q hq; clear hq q) | (refine wl_callB0 rfl has62 rfl (fun w hs => psg_bad hs (by repeat (first | exact List.Mem.head _ | apply List.Mem.tail)) hT (by intro p hp; repeat (first | exact hTA p hp | apply List.Mem.tail | apply List.mem_append_left)) (by assumption) (by assumption)) ?_; (first | refine bad_end ?_ | refine bad_endM ?_); intro w hs)) | apply Wl.nil | (refine wl_store1 rfl rfl rfl rfl (szT rfl) (by repeat (first | exact Upd.here | apply Upd.there)) (by first | decide | (simp; done)) ?_; try simp only [List.set])) | (apply gQ; first | (apply Wq.ev rfl rfl; (focus (first | exact ev_move rfl | (apply gLoa; first | exact ev_load (agT rfl) rfl (by repeat (first | exact List.Mem.head _ | apply List.Mem.tail)) rfl | exact ev_loadWhole (agT rfl) (szT rfl) rfl (by repeat (first | exact List.Mem.head _ | apply List.Mem.tail)) rfl) | exact ev_assign rfl | (apply gFld; first | exact ev_field (fldT rfl) (agT rfl) rfl rfl) | exact ev_makeFunc2 rfl rfl)))) | ((show W _ _ _ _ _ _ _ _ _); first | apply W.seq | ((show W _ _ _ _ _ _ (.inl (.region 16 _ true) :: _) _ _); refine W.regionM [] [⟨b4, true, row [st t4.t] 9⟩, ⟨b3, true, row (tiC t1) 41⟩] [⟨b4, true, row [st t4.t] 9⟩, ⟨b3, true, row (tiC t1) 41⟩] mixed ?_) | apply W.region) | ((show Wm _ _ _ _ _ _ _ _ _ _ _ _ _ _ _ _); first | ((refine Wm.all (by rfl) (by decide +kernel) ?_)) | (refine Wm.done (by decide +kernel) ?_) | (refine Wm.not (by decide +kernel) ?_) | (refine Wm.skip1 (by kernel_rfl) rfl (by kernel_rfl) (by decide +kernel) (by decide) rfl rfl (by repeat (first | exact SubH.nil | apply SubH.keep | apply SubH.drop | exact List.Sublist.refl _ | exact List.sublist_append_left _ _)) (by repeat (first | exact SubH.nil | apply SubH.keep | apply SubH.drop | exact List.Sublist.refl _ | exact List.sublist_append_left _ _)) ?_) | (refine Wm.take1 (by kernel_rfl) rfl (by kernel_rfl) (by decide +kernel) (by decide) rfl rfl (by first | exact ev_move rfl | (apply gLoa; first | exact ev_load (agT rfl) rfl (by repeat (first | exact List.Mem.head _ | apply List.Mem.tail)) rfl | exact ev_loadWhole (agT rfl) (szT rfl) rfl (by repeat (first | exact List.Mem.head _ | apply List.Mem.tail)) rfl) | exact ev_assign rfl | (apply gFld; first | exact ev_field (fldT rfl) (agT rfl) rfl rfl) | exact ev_makeFunc2 rfl rfl) (by repeat (first | exact SubH.nil | apply SubH.keep | apply SubH.drop | exact List.Sublist.refl _ | exact List.sublist_append_left _ _)) (by repeat (first | exact SubH.nil | apply SubH.keep | apply SubH.drop | exact List.Sublist.refl _ | exact List.sublist_append_left _ _)) ?_) | (refine Wm.take0 (by kernel_rfl) rfl (by kernel_rfl) (by decide +kernel) (by decide +kernel) (by decide) (by decide) rfl rfl (by first | exact ev_move rfl | (apply gLoa; first | exact ev_load (agT rfl) rfl (by repeat (first | exact List.Mem.head _ | apply List.Mem.tail)) rfl | exact ev_loadWhole (agT rfl) (szT rfl) rfl (by repeat (first | exact List.Mem.head _ | apply List.Mem.tail)) rfl) | exact ev_assign rfl | (apply gFld; first | exact ev_field (fldT rfl) (agT rfl) rfl rfl) | exact ev_makeFunc2 rfl rfl) (by repeat (first | exact SubH.nil | apply SubH.keep | apply SubH.drop | exact List.Sublist.refl _ | exact List.sublist_append_left _ _)) (by repeat (first | exact SubH.nil | apply SubH.keep | apply SubH.drop | exact List.Sublist.refl _ | exact List.sublist_append_left _ _)) ?_) | ((fail_if_success (refine Wm.chk rfl rfl ?_)); (refine Wm.split (by kernel_rfl) rfl rfl rfl ?_ ?_ <;> (intro h; try (exfalso; first | contradiction | omega | exact h rfl | exact h ⟨rfl, rfl⟩ | (simp_all; done))))) | ((fail_if_success (refine Wm.chk rfl rfl ?_)); (refine Wm.splitB (by kernel_rfl) rfl rfl rfl ?_ ?_ <;> (intro h; try (exfalso; first | contradiction | omega | exact h rfl | exact h ⟨rfl, rfl⟩ | (simp_all; done))))) | apply Wm.next) | apply AllO.nil | apply AllO.cons | (refine Or.inl (by decide +kernel)) | ((show _ ∨ Wl _ _ _ _ _ _ _ _ _ _); apply Or.inr) | (refine Wl.nilM (by repeat (first | exact SubH.nil | apply SubH.keep | apply SubH.drop | exact List.Sublist.refl _ | exact List.sublist_append_left _ _)) (by repeat (first | exact SubH.nil | apply SubH.keep | apply SubH.drop | exact List.Sublist.refl _ | exact List.sublist_append_left _ _)) ?_))); all_goals first | exact BadS.ofC hst1 hs (by intro e; rw [(p2 _).count_eq]; simp only [List.count_append, cnt_cons, List.count_nil]; omega) | fail)
end Go.Proofs.Ytbinaeemcidicaa
