/- Walks: a loop's bound, a loop, an if. No condition. -/
import Derived.Test.YtbinaeemcidicaaGreatDoorZPF
import Derived.Test.YtbinaeemcidicaaGreatDoorZLS
set_option maxRecDepth 100000
set_option maxHeartbeats 16000000
namespace Go.Proofs.YtbinaeemcidicaaGreatDoor
open Go.PB Go.RowKit
attribute [local irreducible] Go.Calls
theorem neg_ok (x : Int) (h : -2147483648 < x ∧ x ≤ 2147483647) (w : World) : Calls Tryz.prog 140 #[.int .i32 x] w (Give (.int .i32 (-x)) w) := by
 have hr : rawS (-x) = -x := by unfold rawS; omega
 refine give_of_W (vs := [.int .i32 x]) Tryz.func140 rfl Tryz.ntmps140 (Nat.le_of_ble_eq_true rfl) (St.nil w _) ?_
 simp only [argL]
 have hc : ∀ w, Calls Tryz.prog 131 #[.int .i64 (-x)] w (Give (.int .i32 (-x)) w) := fun w => by
  have := raw_ok (-x) w
  rwa [hr] at this
 repeat' (first | (apply gL; first | (apply Wl.ev rfl rfl; exact Zev) | (refine lD 131 ?_; refine wl_call0 rfl rfl has131 rfl (fun w hs => hc w) ?_) | apply Wl.nil) | (apply gQ; first | (apply Wq.ev rfl rfl; exact Zev)) | (apply lW; first | apply W.seq | apply W.region | (refine Zba ?_; intro w hs)))
 all_goals first | exact ret_eq hs rfl
theorem bound_step (f : Nat) : NodeC (f + 1) .bnd 181 [] := by
 intro M w0 w H K TR r a lv L l l' o hst hu hT hm hl e
 (obtain ⟨A, p1, p2⟩ := hu.front; have hTA : ∀ e ∈ TR, e ∈ A := fun e he => mem_front p1 (hm e he) (hT.2.1 e he); have hst1 := hst.perm p1; have hlim := hT.2.2.1)
 rw [pF] at e
 rcases may_cases [[45]] l with ⟨t, l2, rfl, c⟩ | c
 ·rw [mayP_yes c] at e
  have a2 := hl.next
  rcases tk_cases wholeT l2 with ⟨u, l3, rfl, c3⟩ | c3
  ·rw [tkP_ok c3] at e
   have a3 := a2.next
   have hx := hl.x hT (List.Mem.tail _ (List.Mem.head _))
   cases e
   rw [← a3.len] at p2
   (refine Zdo ?_; simp only [argL])
   repeat' (first | (apply gL; first | (apply Wl.ev rfl rfl; exact Zev) | (refine Zf8 ?_) | (refine lD 55 ?_; refine wl_call0 rfl rfl has55 rfl Ziz ?_) | (refine lC _ 93 ?_; refine wl_callS rfl rfl has93 rfl Zbm ?_; intro bn hq; clear hq) | (refine Zf0 ?_; first | (refine Zjt ?_; intro q hq; clear hq q) | (refine Zjv ?_; intro q hq; clear hq q)) | (refine lC 18 57 ?_; first | (refine Zib ?_; intro q hq; clear hq q) | (refine Zid ?_; (first | refine bad_end ?_ | refine bad_endM ?_); intro w hs)) | (refine lC 26 57 ?_; first | (refine Zib ?_; intro q hq; clear hq q) | (refine Zid ?_; (first | refine bad_end ?_ | refine bad_endM ?_); intro w hs)) | (refine lD 140 ?_; refine wl_call0 rfl rfl has140 rfl (fun w hs => neg_ok _ Zf5 w) ?_) | apply Wl.nil | (refine Zbd ?_; intro b) | (refine Zf9 ?_; try simp only [List.set]) | (apply wl_buildSlice rfl rfl (slT rfl) (szT rfl) (zeroT rfl) rfl Zf6 rfl; exact Zt; intro b)) | (apply gQ; first | (apply Wq.ev rfl rfl; exact Zev)) | (apply lW; first | apply W.seq | apply W.region | (refine Zbk ?_) | (refine Zba ?_; intro w hs)))
   all_goals first | (simp only [row_nd, List.headD_cons] at hs; exact node_leaf hst1 hs Zo)
  ·rw [tkP_bad c3] at e
   cases e
   rw [← a2.len] at p2
   (refine Zdo ?_; simp only [argL])
   repeat' (first | (apply gL; first | (apply Wl.ev rfl rfl; exact Zev) | (refine Zf8 ?_) | (refine lD 55 ?_; refine wl_call0 rfl rfl has55 rfl Ziz ?_) | (refine lC _ 93 ?_; refine wl_callS rfl rfl has93 rfl Zbm ?_; intro bn hq; clear hq) | (refine Zf0 ?_; first | (refine Zjt ?_; intro q hq; clear hq q) | (refine Zjv ?_; intro q hq; clear hq q)) | (refine lC 18 57 ?_; first | (refine Zib ?_; intro q hq; clear hq q) | (refine Zid ?_; (first | refine bad_end ?_ | refine bad_endM ?_); intro w hs)) | (refine lC 26 57 ?_; first | (refine Zib ?_; intro q hq; clear hq q) | (refine Zid ?_; (first | refine bad_end ?_ | refine bad_endM ?_); intro w hs)) | apply Wl.nil | (refine Zbd ?_; intro b) | (apply wl_buildSlice rfl rfl (slT rfl) (szT rfl) (zeroT rfl) rfl Zf6 rfl; exact Zt; intro b)) | (apply gQ; first | (apply Wq.ev rfl rfl; exact Zev)) | (apply lW; first | apply W.seq | apply W.region | (refine Zbk ?_)))
   all_goals first | exact BadS.ofC hst1 hs Zo
 ·rw [mayP_no c] at e
  rcases tk_cases wholeT l with ⟨u, l3, rfl, c3⟩ | c3
  ·rw [tkP_ok c3] at e
   have a3 := hl.next
   cases e
   rw [← a3.len] at p2
   (refine Zdo ?_; simp only [argL])
   repeat' (first | (apply gL; first | (apply Wl.ev rfl rfl; exact Zev) | (refine Zf8 ?_) | (refine lD 55 ?_; refine wl_call0 rfl rfl has55 rfl Ziz ?_) | (refine lC _ 93 ?_; refine wl_callS rfl rfl has93 rfl Zbm ?_; intro bn hq; clear hq) | (refine Zf0 ?_; first | (refine Zjt ?_; intro q hq; clear hq q) | (refine Zjv ?_; intro q hq; clear hq q)) | (refine lC 18 57 ?_; first | (refine Zib ?_; intro q hq; clear hq q) | (refine Zid ?_; (first | refine bad_end ?_ | refine bad_endM ?_); intro w hs)) | (refine lC 26 57 ?_; first | (refine Zib ?_; intro q hq; clear hq q) | (refine Zid ?_; (first | refine bad_end ?_ | refine bad_endM ?_); intro w hs)) | apply Wl.nil | (refine Zbd ?_; intro b) | (refine Zf9 ?_; try simp only [List.set]) | (apply wl_buildSlice rfl rfl (slT rfl) (szT rfl) (zeroT rfl) rfl Zf6 rfl; exact Zt; intro b)) | (apply gQ; first | (apply Wq.ev rfl rfl; exact Zev)) | (apply lW; first | apply W.seq | apply W.region | (refine Zbg ?_) | (refine Zba ?_; intro w hs)))
   all_goals first | (simp only [row_nd, List.headD_cons] at hs; exact node_leaf hst1 hs Zo)
  ·rw [tkP_bad c3] at e
   cases e
   rw [← hl.len] at p2
   (refine Zdo ?_; simp only [argL])
   repeat' (first | (apply gL; first | (apply Wl.ev rfl rfl; exact Zev) | (refine Zf8 ?_) | (refine lD 55 ?_; refine wl_call0 rfl rfl has55 rfl Ziz ?_) | (refine lC _ 93 ?_; refine wl_callS rfl rfl has93 rfl Zbm ?_; intro bn hq; clear hq) | (refine Zf0 ?_; first | (refine Zjt ?_; intro q hq; clear hq q) | (refine Zjv ?_; intro q hq; clear hq q)) | (refine lC 18 57 ?_; first | (refine Zib ?_; intro q hq; clear hq q) | (refine Zid ?_; (first | refine bad_end ?_ | refine bad_endM ?_); intro w hs)) | (refine lC 26 57 ?_; first | (refine Zib ?_; intro q hq; clear hq q) | (refine Zid ?_; (first | refine bad_end ?_ | refine bad_endM ?_); intro w hs)) | apply Wl.nil | (refine Zbd ?_; intro b) | (apply wl_buildSlice rfl rfl (slT rfl) (szT rfl) (zeroT rfl) rfl Zf6 rfl; exact Zt; intro b)) | (apply gQ; first | (apply Wq.ev rfl rfl; exact Zev)) | (apply lW; first | apply W.seq | apply W.region | (refine Zbg ?_)))
   all_goals first | exact BadS.ofC hst1 hs Zo
end Go.Proofs.YtbinaeemcidicaaGreatDoor
namespace Go.Proofs.YtbinaeemcidicaaGreatDoor
open Go.PB Go.RowKit
attribute [local irreducible] Go.Calls
theorem ptakeR_ok {M : List Nat} {w0 w : World} {H H' TR R : List Ent} {r a : Nat} {lv fv : Value} {L l : List Ti} {p : Ti → Bool} {t : Ti} (hp : PredE fv p R) (hst : St M w0 w H) (hR : ∀ e ∈ R, e ∈ H) (hRr : ∀ e ∈ R, e ≠ ⟨r, true, rdP lv a⟩)
  (hu : Upd H r (rdP lv a) (rdP lv (a + 1)) H') (hT : TokE TR r lv L) (hm : ∀ p ∈ TR, p ∈ H) (hl : At L a (t :: l)) (ht : p t = true) :
  Calls Tryz.prog 57 #[ptr r, fv] w (GivesS (fun _ : Unit => tiV t) (fun _ => True) M w0 fun _ => H') := take_ok hst hp hR hRr hu hT hm hl.2 ht
theorem ptakeR_bad {M : List Nat} {w0 w : World} {H TR R : List Ent} {r a : Nat} {lv fv : Value} {L l : List Ti} {p : Ti → Bool} (hp : PredE fv p R) (hst : St M w0 w H) (hR : ∀ e ∈ R, e ∈ H)
  (hr : (⟨r, true, rdP lv a⟩ : Ent) ∈ H) (hT : TokE TR r lv L) (hm : ∀ p ∈ TR, p ∈ H) (hl : At L a l) (ht : okT p l = false) :
  Calls Tryz.prog 57 #[ptr r, fv] w (BadS wrongC M w0 H) := take_bad hst hp hR hr hT hm hl.1 (ok_bad hl ht)
abbrev samP (nm : List UInt8) (u : Ti) : Bool := namedT u && decide (u.t = nm)
theorem same1_ok {M : List Nat} {w0 w : World} {H : List Ent} {b : Nat} {wr : Bool} (s : List UInt8) (t : Ti) (hst : St M w0 w H) (hb : (⟨b, wr, row [st s] 9⟩ : Ent) ∈ H) :
  Calls Tryz.prog 180 #[tiV t, ptr b] w (Give (.bool (samP s t)) w) := by
 have hr := mem_ro hb
 refine give_of_W (vs := [tiV t, ptr b]) Tryz.func180 rfl Tryz.ntmps180 (Nat.le_of_ble_eq_true rfl) hst.reads ?_
 simp only [argL]
 have h2 : ∀ w, Calls Tryz.prog 59 #[tiV t] w (Give (.bool (namedT t)) w) := named_ok t
 unfold samP
 obtain ⟨q, hq⟩ : ∃ q, namedT t = q := ⟨_, rfl⟩
 rw [hq] at h2 ⊢
 clear hq
 obtain ⟨k, tx, x, a, n⟩ := t
 dsimp only [tiV, tiC] at h2 ⊢
 cases q
 ·repeat' (first | (apply gL; first | (apply Wl.ev rfl rfl; exact Zev) | (refine lB _ ?_; refine wl_box rfl rfl rfl rfl ?_; intro bt) | (refine lD 59 ?_; refine wl_call0 rfl rfl has59 rfl Zfr ?_) | apply Wl.nil | (refine Zbr ?_)) | (apply gQ; first | (apply Wq.ev rfl rfl; exact Zev)) | (apply lW; first | apply W.seq | apply W.region | (refine Zba ?_; intro w hs)))
  all_goals first | exact ret_eq hs rfl | contradiction
 ·repeat' (first | (apply gL; first | (apply Wl.ev rfl rfl; exact Zdg) | (refine lB _ ?_; refine wl_box rfl rfl rfl rfl ?_; intro bt) | (refine lD 59 ?_; refine wl_call0 rfl rfl has59 rfl Zfr ?_) | apply Wl.nil) | (apply gQ; first | (apply Wq.ev rfl rfl; exact Zdg)) | (apply lW; first | apply W.seq | apply W.region | (refine Zba ?_; intro w hs)))
  all_goals first | exact ret_eq hs rfl | exact ret_eq hs (by simp; done) | contradiction | (exact ret_eq hs (congrArg Value.bool (by rw [Bool.true_and])))
theorem same_pred (s : List UInt8) (b : Nat) : PredE (fnV 180 [] [ptr b]) (samP s) [⟨b, true, row [st s] 9⟩] :=
 ⟨_, _, rfl, has180, fun t hst hm => same1_ok s t hst (hm _ (List.Mem.head _))⟩
theorem str_no_rd' {q r a : Nat} {l : List Value} {lv : Value} : ∀ e ∈ [(⟨q, true, row l 9⟩ : Ent)], e ≠ ⟨r, true, rdP lv a⟩ := fun e he => by
 rw [List.mem_singleton.1 he]
 exact str_no_rd
theorem mem_one {p : Ent} {H : List Ent} (h : p ∈ H) : ∀ e ∈ [p], e ∈ H := fun e he => by
 rw [List.mem_singleton.1 he]
 exact h
theorem loop_step {f : Nat} (ihb : NodeC f .bnd 181 []) (ihs : NodeC f .stmt 135 []) : NodeC (f + 1) .loop 163 [] := by
 intro M w0 w H K TR r a lv L l0 l' o hst hu hT hm a0 e
 (obtain ⟨A, p1, p2⟩ := hu.front; have hTA : ∀ e ∈ TR, e ∈ A := fun e he => mem_front p1 (hm e he) (hT.2.1 e he); have hst1 := hst.perm p1; have hlim := hT.2.2.1)
 rw [pF] at e
 rcases tk_cases (isA [[102, 111, 114]]) l0 with ⟨t1, l1, rfl, c1⟩ | c1
 rotate_left
 rw [tkP_bad c1] at e
 cases e
 rw [← a0.len] at p2
 rotate_right
 rw [tkP_ok c1] at e
 have a1 := a0.next
 rcases tk_cases (isA [[40]]) l1 with ⟨t2, l2, rfl, c2⟩ | c2
 rotate_left
 rw [tkP_bad c2] at e
 cases e
 rw [← a1.len] at p2
 rotate_right
 rw [tkP_ok c2] at e
 have a2 := a1.next
 rcases tk_cases (isA [[105, 110, 116]]) l2 with ⟨t3, l3, rfl, c3⟩ | c3
 rotate_left
 rw [tkP_bad c3] at e
 cases e
 rw [← a2.len] at p2
 rotate_right
 rw [tkP_ok c3] at e
 have a3 := a2.next
 rcases tk_cases (namedT) l3 with ⟨t4, l4, rfl, c4⟩ | c4
 rotate_left
 rw [tkP_bad c4] at e
 cases e
 rw [← a3.len] at p2
 rotate_right
 rw [tkP_ok c4] at e
 have a4 := a3.next
 rcases tk_cases (isA [[61]]) l4 with ⟨t5, l5, rfl, c5⟩ | c5
 rotate_left
 rw [tkP_bad c5] at e
 cases e
 rw [← a4.len] at p2
 rotate_right
 rw [tkP_ok c5] at e
 have a5 := a4.next
 rcases bnd_cases e with ⟨e6, rfl⟩ | ⟨p6, l6, e6, e⟩
 rotate_left
 have a6 := a5.step e6
 rcases tk_cases (isA [[59]]) l6 with ⟨t7, l7, rfl, c7⟩ | c7
 rotate_left
 rw [tkP_bad c7] at e
 cases e
 rw [← a6.len] at p2
 rotate_right
 rw [tkP_ok c7] at e
 have a7 := a6.next
 rcases tk_cases (samP t4.t) l7 with ⟨t8, l8, rfl, c8⟩ | c8
 rotate_left
 rw [tkP_bad c8] at e
 cases e
 rw [← a7.len] at p2
 rotate_right
 rw [tkP_ok c8] at e
 have a8 := a7.next
 rcases tk_cases (isA [[60]]) l8 with ⟨t9, l9, rfl, c9⟩ | c9
 rotate_left
 rw [tkP_bad c9] at e
 cases e
 rw [← a8.len] at p2
 rotate_right
 rw [tkP_ok c9] at e
 have a9 := a8.next
 rcases bnd_cases e with ⟨e10, rfl⟩ | ⟨p10, l10, e10, e⟩
 rotate_left
 have a10 := a9.step e10
 rcases tk_cases (isA [[59]]) l10 with ⟨t11, l11, rfl, c11⟩ | c11
 rotate_left
 rw [tkP_bad c11] at e
 cases e
 rw [← a10.len] at p2
 rotate_right
 rw [tkP_ok c11] at e
 have a11 := a10.next
 rcases tk_cases (samP t4.t) l11 with ⟨t12, l12, rfl, c12⟩ | c12
 rotate_left
 rw [tkP_bad c12] at e
 cases e
 rw [← a11.len] at p2
 rotate_right
 rw [tkP_ok c12] at e
 have a12 := a11.next
 rcases tk_cases (isA [[43, 43]]) l12 with ⟨t13, l13, rfl, c13⟩ | c13
 rotate_left
 rw [tkP_bad c13] at e
 cases e
 rw [← a12.len] at p2
 rotate_right
 rw [tkP_ok c13] at e
 have a13 := a12.next
 rcases tk_cases (isA [[41]]) l13 with ⟨t14, l14, rfl, c14⟩ | c14
 rotate_left
 rw [tkP_bad c14] at e
 cases e
 rw [← a13.len] at p2
 rotate_right
 rw [tkP_ok c14] at e
 have a14 := a13.next
 rcases bnd_cases e with ⟨e15, rfl⟩ | ⟨p15, l15, e15, e⟩
 rotate_left
 have a15 := a14.step e15
 cases e
 ·(refine Zhn ?_; simp only [argL])
  repeat' (first | (apply gL; first | (apply Wl.ev rfl rfl; exact Zu) | (refine lA 3 ?_; refine wl_alloc rfl rfl (zeroT rfl) ?_; intro b3) | (refine lA 4 ?_; refine wl_alloc rfl rfl (zeroT rfl) ?_; intro b4) | (refine Zf8 ?_) | (refine lC 15 57 ?_; first | (refine Zhu ?_; intro q hq; clear hq q) | (refine Zhv ?_; (first | refine bad_end ?_ | refine bad_endM ?_); intro w hs)) | (refine lC 26 57 ?_; (first | (refine Zjd ?_; intro q9 hq9; clear hq9 q9) | (refine Zjp ?_; refine bad_end ?_; intro w hs))) | (refine lC 35 57 ?_; (first | (refine Zjd ?_; intro q9 hq9; clear hq9 q9) | (refine Zjp ?_; refine bad_end ?_; intro w hs))) | (refine lC 21 181 ?_; first | (refine wl_callS rfl rfl has181 rfl (fun w hs => node_ok ihb hs e6 Zf5 Zh hT Zc) ?_; rintro n1 ⟨hok1, hp1⟩) | (refine wl_callB0 rfl has181 rfl (fun w hs => node_bad ihb hs e6 Zf5 Zh hT Zc) ?_; (first | refine bad_end ?_ | refine bad_endM ?_); intro w hs)) | (refine lC 30 181 ?_; first | (refine wl_callS rfl rfl has181 rfl (fun w hs => node_ok ihb hs e10 Zf5 Zh hT Zc) ?_; rintro n2 ⟨hok2, hp2⟩) | (refine wl_callB0 rfl has181 rfl (fun w hs => node_bad ihb hs e10 Zf5 Zh hT Zc) ?_; (first | refine bad_end ?_ | refine bad_endM ?_); intro w hs)) | (refine lC 45 135 ?_; first | (refine wl_callS rfl rfl has135 rfl (fun w hs => node_ok ihs hs e15 Zf5 Zh hT Zc) ?_; rintro n3 ⟨hok3, hp3⟩) | (refine wl_callB0 rfl has135 rfl (fun w hs => node_bad ihs hs e15 Zf5 Zh hT Zc) ?_; (first | refine bad_end ?_ | refine bad_endM ?_); intro w hs)) | (refine lC 47 93 ?_; refine wl_callS rfl rfl has93 rfl Zbm ?_; intro bn hq; clear hq) | (refine lC _ 94 ?_; first | (refine Zho ?_; intro q hq; clear hq q) | (refine Zhp ?_; (first | refine bad_end ?_ | refine bad_endM ?_); intro w hs)) | apply Wl.nil | (refine Zf9 ?_; try simp only [List.set]) | (apply wl_buildSlice rfl rfl (slT rfl) (szT rfl) (zeroT rfl) rfl Zf6 rfl; exact Zt; intro b)) | (apply gQ; first | (apply Wq.ev rfl rfl; exact Zu)) | (apply lW; first | apply W.seq | ((show W _ _ _ _ _ _ (.inl (.region 16 _ true) :: _) _ _); refine W.regionM [] [⟨b4, true, row [st t4.t] 9⟩, ⟨b3, true, row (tiC t1) 67⟩] [⟨b4, true, row [st t4.t] 9⟩, ⟨b3, true, row (tiC t1) 67⟩] mixed ?_) | apply W.region | (refine Zba ?_; intro w hs)) | ((show Wm _ _ _ _ _ _ _ _ _ _ _ _ _ _ _ _); first | ((refine Zgg ?_)) | (refine Zgq ?_) | (refine Zgs ?_) | (refine Zh4 ?_) | (refine Zi6 ?_) | (refine Ziv ?_) | ((fail_if_success (refine Zbn ?_)); (refine Zgc ?_ ?_ <;> (intro h; try exact Zg))) | ((fail_if_success (refine Zbn ?_)); (refine Zga ?_ ?_ <;> (intro h; try exact Zg))) | apply Wm.next) | apply AllO.nil | apply AllO.cons | (refine Or.inl Zk) | ((show _ ∨ Wl _ _ _ _ _ _ _ _ _ _); apply Or.inr) | (refine Zg5 ?_))
  all_goals first | exact node_new (kb := b) (n := 3) hst1 hs [n1, n2, n3] _ (by simp only [tnsOk]; exact ⟨hok1, hok2, hok3, trivial⟩) (by simp only [tnsP, hp1, hp2, hp3]) rfl (show 3 ≤ 1000 by decide) Zb5
 all_goals ((refine Zhn ?_; simp only [argL]); (repeat' (first | (apply gL; first | (apply Wl.ev rfl rfl; exact Zu) | (refine lA 3 ?_; refine wl_alloc rfl rfl (zeroT rfl) ?_; intro b3) | (refine lA 4 ?_; refine wl_alloc rfl rfl (zeroT rfl) ?_; intro b4) | (refine Zf8 ?_) | (refine lC 15 57 ?_; first | (refine Zhu ?_; intro q hq; clear hq q) | (refine Zhv ?_; (first | refine bad_end ?_ | refine bad_endM ?_); intro w hs)) | (refine lC 26 57 ?_; (first | (refine Zjd ?_; intro q9 hq9; clear hq9 q9) | (refine Zjp ?_; refine bad_end ?_; intro w hs))) | (refine lC 35 57 ?_; (first | (refine Zjd ?_; intro q9 hq9; clear hq9 q9) | (refine Zjp ?_; refine bad_end ?_; intro w hs))) | (refine lC 21 181 ?_; first | (refine wl_callS rfl rfl has181 rfl (fun w hs => node_ok ihb hs e6 Zf5 Zh hT Zc) ?_; rintro n1 ⟨hok1, hp1⟩) | (refine wl_callB0 rfl has181 rfl (fun w hs => node_bad ihb hs e6 Zf5 Zh hT Zc) ?_; (first | refine bad_end ?_ | refine bad_endM ?_); intro w hs)) | (refine lC 30 181 ?_; first | (refine wl_callS rfl rfl has181 rfl (fun w hs => node_ok ihb hs e10 Zf5 Zh hT Zc) ?_; rintro n2 ⟨hok2, hp2⟩) | (refine wl_callB0 rfl has181 rfl (fun w hs => node_bad ihb hs e10 Zf5 Zh hT Zc) ?_; (first | refine bad_end ?_ | refine bad_endM ?_); intro w hs)) | (refine lC 45 135 ?_; first | (refine wl_callS rfl rfl has135 rfl (fun w hs => node_ok ihs hs e15 Zf5 Zh hT Zc) ?_; rintro n3 ⟨hok3, hp3⟩) | (refine wl_callB0 rfl has135 rfl (fun w hs => node_bad ihs hs e15 Zf5 Zh hT Zc) ?_; (first | refine bad_end ?_ | refine bad_endM ?_); intro w hs)) | (refine lC _ 94 ?_; first | (refine Zho ?_; intro q hq; clear hq q) | (refine Zhp ?_; (first | refine bad_end ?_ | refine bad_endM ?_); intro w hs)) | apply Wl.nil | (refine Zf9 ?_; try simp only [List.set])) | (apply gQ; first | (apply Wq.ev rfl rfl; exact Zu)) | (apply lW; first | apply W.seq | ((show W _ _ _ _ _ _ (.inl (.region 16 _ true) :: _) _ _); refine W.regionM [] [⟨b4, true, row [st t4.t] 9⟩, ⟨b3, true, row (tiC t1) 67⟩] [⟨b4, true, row [st t4.t] 9⟩, ⟨b3, true, row (tiC t1) 67⟩] mixed ?_) | apply W.region) | ((show Wm _ _ _ _ _ _ _ _ _ _ _ _ _ _ _ _); first | ((refine Zgg ?_)) | (refine Zgq ?_) | (refine Zgs ?_) | (refine Zh4 ?_) | (refine Zi6 ?_) | (refine Ziv ?_) | ((fail_if_success (refine Zbn ?_)); (refine Zgc ?_ ?_ <;> (intro h; try exact Zg))) | ((fail_if_success (refine Zbn ?_)); (refine Zga ?_ ?_ <;> (intro h; try exact Zg))) | apply Wm.next) | apply AllO.nil | apply AllO.cons | (refine Or.inl Zk) | ((show _ ∨ Wl _ _ _ _ _ _ _ _ _ _); apply Or.inr) | (refine Zg5 ?_))); all_goals first | exact BadS.ofC hst1 hs Zo | fail)
end Go.Proofs.YtbinaeemcidicaaGreatDoor
