/- Walks: what stands alone. No condition. -/
import Derived.Test.YtbinaeemcidicaaGreatDoorZPT
set_option maxRecDepth 100000
set_option maxHeartbeats 16000000
namespace Go.Proofs.YtbinaeemcidicaaGreatDoor
open Go.PB Go.RowKit
attribute [local irreducible] Go.Calls
theorem fst1_ok {M : List Nat} {w0 w : World} {H : List Ent} (t : Ti) (_ : St M w0 w H) : Calls Tryz.prog 208 #[tiV t] w (Give (.bool (fstT t)) w) := by
 refine give_of_W (vs := [tiV t]) Tryz.func208 rfl Tryz.ntmps208 (Nat.le_of_ble_eq_true rfl) (St.nil w _) ?_
 simp only [argL]
 have h1 : ∀ w, Calls Tryz.prog 58 #[tiV t] w (Give (.bool (typedT t)) w) := typed_ok t
 have h2 : ∀ w, Calls Tryz.prog 59 #[tiV t] w (Give (.bool (namedT t)) w) := named_ok t
 have h3 : ∀ {H : List Ent} (q : Nat) (w' : World), St [] w w' H → (⟨q, true, row [st [116, 114, 117, 101], st [102, 97, 108, 115, 101], st [40]] 9⟩ : Ent) ∈ H → Calls Tryz.prog 60 #[tiV t, .slice (some ⟨q, 0, none⟩) 3 3] w' (Give (.bool (isA [[116, 114, 117, 101], [102, 97, 108, 115, 101], [40]] t)) w') := fun q w' hs hm => pis (s := [[116, 114, 117, 101], [102, 97, 108, 115, 101], [40]]) hs hm rfl rfl Zf6
 unfold fstT
 obtain ⟨q1, e1⟩ : ∃ q, typedT t = q := ⟨_, rfl⟩
 obtain ⟨q2, e2⟩ : ∃ q, namedT t = q := ⟨_, rfl⟩
 obtain ⟨q3, e3⟩ : ∃ q, isA [[116, 114, 117, 101], [102, 97, 108, 115, 101], [40]] t = q := ⟨_, rfl⟩
 rw [e1] at h1 ⊢
 rw [e2] at h2 ⊢
 rw [e3] at h3 ⊢
 clear e1 e2 e3
 obtain ⟨k, tx, x, a, n⟩ := t
 dsimp only [tiV, tiC] at h1 h2 h3 ⊢
 by_cases hk : k = 2
 ·rw [decide_eq_true hk]
  repeat' (first | (apply gL; first | (apply Wl.ev rfl rfl; exact Zcd) | (refine lB _ ?_; refine wl_box rfl rfl rfl rfl ?_; intro bt) | apply Wl.nil | (refine Zbr ?_)) | (apply gQ; first | (apply Wq.ev rfl rfl; exact Zcd)) | (apply lW; first | apply W.seq | apply W.region | (refine Zba ?_; intro w hs)))
  all_goals first | exact ret_eq hs rfl | contradiction
 by_cases hk3 : k = 3
 ·rw [decide_eq_false hk, decide_eq_true hk3]
  repeat' (first | (apply gL; first | (apply Wl.ev rfl rfl; exact Zee) | (refine lB _ ?_; refine wl_box rfl rfl rfl rfl ?_; intro bt) | apply Wl.nil | (refine Zbr ?_)) | (apply gQ; first | (apply Wq.ev rfl rfl; exact Zee)) | (apply lW; first | apply W.seq | apply W.region | (refine Zba ?_; intro w hs)))
  all_goals first | exact ret_eq hs rfl | contradiction
 rw [decide_eq_false hk, decide_eq_false hk3]
 cases q1
 ·cases q2
  ·repeat' (first | (apply gL; first | (apply Wl.ev rfl rfl; exact Zby) | (refine lB _ ?_; refine wl_box rfl rfl rfl rfl ?_; intro bt) | (refine lD 58 ?_; refine wl_call0 rfl rfl has58 rfl (fun w hs => h1 w) ?_) | (refine lD 59 ?_; refine wl_call0 rfl rfl has59 rfl Zfr ?_) | (refine lD 60 ?_; refine wl_call0 rfl rfl has60 rfl (fun w hs => h3 _ w hs Zd) ?_) | apply Wl.nil | (apply wl_buildSlice rfl rfl (slT rfl) (szT rfl) (zeroT rfl) rfl Zf6 rfl; exact Zt; intro b)) | (apply gQ; first | (apply Wq.ev rfl rfl; exact Zby)) | (apply lW; first | apply W.seq | apply W.region | (refine Zba ?_; intro w hs)))
   all_goals first | exact ret_eq hs rfl | contradiction
  ·repeat' (first | (apply gL; first | (apply Wl.ev rfl rfl; exact Zby) | (refine lB _ ?_; refine wl_box rfl rfl rfl rfl ?_; intro bt) | (refine lD 58 ?_; refine wl_call0 rfl rfl has58 rfl (fun w hs => h1 w) ?_) | (refine lD 59 ?_; refine wl_call0 rfl rfl has59 rfl Zfr ?_) | apply Wl.nil | (refine Zbr ?_)) | (apply gQ; first | (apply Wq.ev rfl rfl; exact Zby)) | (apply lW; first | apply W.seq | apply W.region | (refine Zba ?_; intro w hs)))
   all_goals first | exact ret_eq hs rfl | contradiction
 ·repeat' (first | (apply gL; first | (apply Wl.ev rfl rfl; exact Zby) | (refine lB _ ?_; refine wl_box rfl rfl rfl rfl ?_; intro bt) | (refine lD 58 ?_; refine wl_call0 rfl rfl has58 rfl (fun w hs => h1 w) ?_) | (refine lD 59 ?_; refine wl_call0 rfl rfl has59 rfl Zfr ?_) | apply Wl.nil | (refine Zbr ?_)) | (apply gQ; first | (apply Wq.ev rfl rfl; exact Zby)) | (apply lW; first | apply W.seq | apply W.region | (refine Zba ?_; intro w hs)))
  all_goals first | exact ret_eq hs rfl | contradiction
theorem fst_pred : PredE (fnV 208 [] []) fstT [] := ⟨_, _, rfl, has208, fun t hst _ => fst1_ok t hst⟩
theorem first_step {f : Nat} (ihe : NodeC f .expr 99 []) : NodeC (f + 1) .fst 197 [] := by
 intro M w0 w H K TR r a lv L l l' o hst hu hT hm hl e
 (obtain ⟨A, p1, p2⟩ := hu.front; have hTA : ∀ e ∈ TR, e ∈ A := fun e he => mem_front p1 (hm e he) (hT.2.1 e he); have hst1 := hst.perm p1; have hlim := hT.2.2.1)
 rw [pF] at e
 rcases tk_cases fstT l with ⟨t, l1, rfl, c⟩ | c
 case inr =>
  rw [tkP_bad c] at e
  cases e
  rw [← hl.len] at p2
  (refine Zbu ?_; simp only [argL])
  repeat' (first | (apply gL; first | (apply Wl.ev rfl rfl; exact Zev) | (refine lC 7 57 ?_; first | (refine Zhw ?_; intro q hq; clear hq q) | (refine Zhx ?_; (first | refine bad_end ?_ | refine bad_endM ?_); intro w hs)) | apply Wl.nil) | (apply gQ; first | (apply Wq.ev rfl rfl; exact Zev)) | (apply lW; first | apply W.seq | apply W.region))
  all_goals first | exact BadS.ofC hst1 hs Zo
 rw [tkP_ok c] at e
 have a1 := hl.next
 by_cases hk : t.k = 2 ∨ t.k = 3
 ·rw [if_pos hk] at e
  cases e
  rw [← a1.len] at p2
  (refine Zbu ?_; simp only [argL])
  repeat' (first | (apply gL; first | (apply Wl.ev rfl rfl; exact Zev) | (refine lA 3 ?_; refine wl_alloc rfl rfl (zeroT rfl) ?_; intro b3) | (refine Zf8 ?_) | (refine lC 7 57 ?_; first | (refine Zhw ?_; intro q hq; clear hq q) | (refine Zhx ?_; (first | refine bad_end ?_ | refine bad_endM ?_); intro w hs)) | (refine lC _ 93 ?_; refine wl_callS rfl rfl has93 rfl Zbm ?_; intro bn hq; clear hq) | apply Wl.nil | (refine Zf9 ?_; try simp only [List.set])) | (apply gQ; first | (apply Wq.ev rfl rfl; exact Zev)) | (apply lW; first | apply W.seq | apply W.region | apply W.block | apply W.skip | (refine Zz ?_ ?_ <;> (intro h; try exact Zg)) | (refine Zba ?_; intro w hs)))
  all_goals first | exact node_leaf hst1 (show St _ _ w (⟨bn, true, ndO (20 + t.k - 2) [] [] t.x t.a (.slice none 0 0)⟩ :: ⟨b3, true, row (tiC t) 67⟩ :: ⟨r, true, rdP lv (a + 1)⟩ :: A) from hs) Zo | exact Zy
 rw [if_neg hk] at e
 have hk2 : ¬t.k = 2 := fun h => hk (.inl h)
 have hk3 : ¬t.k = 3 := fun h => hk (.inr h)
 cases cp : isA [[40]] t with
 | true =>
  rw [if_pos cp] at e
  rcases bnd_cases e with ⟨e1, rfl⟩ | ⟨ps, l2, e1, e⟩
  ·(refine Zbu ?_; simp only [argL])
   repeat' (first | (apply gL; first | (apply Wl.ev rfl rfl; exact Zev) | (refine lA 3 ?_; refine wl_alloc rfl rfl (zeroT rfl) ?_; intro b3) | (refine Zf8 ?_) | (refine lC 7 57 ?_; first | (refine Zhw ?_; intro q hq; clear hq q) | (refine Zhx ?_; (first | refine bad_end ?_ | refine bad_endM ?_); intro w hs)) | (refine lC 33 99 ?_; first | (refine Zhz ?_; rintro t1 ⟨hok1, hp1⟩) | (refine Zh1 ?_; (first | refine bad_end ?_ | refine bad_endM ?_); intro w hs)) | (refine lC 31 60 ?_; refine wl_call0 rfl rfl has60 rfl Zht ?_) | (refine lC 52 60 ?_; refine wl_call0 rfl rfl has60 rfl Zht ?_) | apply Wl.nil | (apply wl_buildSlice rfl rfl (slT rfl) (szT rfl) (zeroT rfl) rfl Zf6 rfl; exact Zt; intro b)) | (apply gQ; first | (apply Wq.ev rfl rfl; exact Zev)) | (apply lW; first | apply W.seq | apply W.region | apply W.block | (refine Zbk ?_) | (refine Zz ?_ ?_ <;> (intro h; try exact Za))))
   all_goals first | exact BadS.ofC hst1 hs Zo | contradiction
  have a2 := a1.step e1
  rcases tk_cases (isA [[41]]) l2 with ⟨t3, l3, rfl, c3⟩ | c3
  ·rw [tkP_ok c3] at e
   have a3 := a2.next
   cases e
   rw [← a3.len] at p2
   (refine Zbu ?_; simp only [argL])
   repeat' (first | (apply gL; first | (apply Wl.ev rfl rfl; exact Zev) | (refine lA 3 ?_; refine wl_alloc rfl rfl (zeroT rfl) ?_; intro b3) | (refine Zf8 ?_) | (refine lC 7 57 ?_; first | (refine Zhw ?_; intro q hq; clear hq q) | (refine Zhx ?_; (first | refine bad_end ?_ | refine bad_endM ?_); intro w hs)) | (refine lC 33 99 ?_; first | (refine Zhz ?_; rintro t1 ⟨hok1, hp1⟩) | (refine Zh1 ?_; (first | refine bad_end ?_ | refine bad_endM ?_); intro w hs)) | (refine lC 31 60 ?_; refine wl_call0 rfl rfl has60 rfl Zht ?_) | (refine lC 52 60 ?_; refine wl_call0 rfl rfl has60 rfl Zht ?_) | (refine lC 35 94 ?_; first | (refine Zho ?_; intro q hq; clear hq q) | (refine Zhp ?_; (first | refine bad_end ?_ | refine bad_endM ?_); intro w hs)) | (refine lC 60 94 ?_; first | (refine Zho ?_; intro q hq; clear hq q) | (refine Zhp ?_; (first | refine bad_end ?_ | refine bad_endM ?_); intro w hs)) | apply Wl.nil | (apply wl_buildSlice rfl rfl (slT rfl) (szT rfl) (zeroT rfl) rfl Zf6 rfl; exact Zt; intro b)) | (apply gQ; first | (apply Wq.ev rfl rfl; exact Zev)) | (apply lW; first | apply W.seq | apply W.region | apply W.block | (refine Zbk ?_) | (refine Zz ?_ ?_ <;> (intro h; try exact Za)) | (refine Zba ?_; intro w hs)))
   all_goals first | exact GivesS.ofC hst1 hs t1 ⟨hok1, hp1⟩ rfl Zo | contradiction
  ·rw [tkP_bad c3] at e
   cases e
   (refine Zbu ?_; simp only [argL])
   repeat' (first | (apply gL; first | (apply Wl.ev rfl rfl; exact Zev) | (refine lA 3 ?_; refine wl_alloc rfl rfl (zeroT rfl) ?_; intro b3) | (refine Zf8 ?_) | (refine lC 7 57 ?_; first | (refine Zhw ?_; intro q hq; clear hq q) | (refine Zhx ?_; (first | refine bad_end ?_ | refine bad_endM ?_); intro w hs)) | (refine lC 33 99 ?_; first | (refine Zhz ?_; rintro t1 ⟨hok1, hp1⟩) | (refine Zh1 ?_; (first | refine bad_end ?_ | refine bad_endM ?_); intro w hs)) | (refine lC 31 60 ?_; refine wl_call0 rfl rfl has60 rfl Zht ?_) | (refine lC 52 60 ?_; refine wl_call0 rfl rfl has60 rfl Zht ?_) | (refine lC 35 94 ?_; first | (refine Zho ?_; intro q hq; clear hq q) | (refine Zhp ?_; (first | refine bad_end ?_ | refine bad_endM ?_); intro w hs)) | (refine lC 60 94 ?_; first | (refine Zho ?_; intro q hq; clear hq q) | (refine Zhp ?_; (first | refine bad_end ?_ | refine bad_endM ?_); intro w hs)) | apply Wl.nil | (apply wl_buildSlice rfl rfl (slT rfl) (szT rfl) (zeroT rfl) rfl Zf6 rfl; exact Zt; intro b)) | (apply gQ; first | (apply Wq.ev rfl rfl; exact Zev)) | (apply lW; first | apply W.seq | apply W.region | apply W.block | (refine Zbk ?_) | (refine Zz ?_ ?_ <;> (intro h; try exact Za))))
   all_goals first | exact BadS.ofC hst1 hs Zo | contradiction
 | false =>
 rw [if_neg (by rw [cp]; simp)] at e
 cases cb : isA [[116, 114, 117, 101], [102, 97, 108, 115, 101]] t with
 | true =>
  rw [if_pos cb] at e
  cases e
  rw [← a1.len] at p2
  (refine Zbu ?_; simp only [argL])
  repeat' (first | (apply gL; first | (apply Wl.ev rfl rfl; exact Zev) | (refine lA 3 ?_; refine wl_alloc rfl rfl (zeroT rfl) ?_; intro b3) | (refine Zf8 ?_) | (refine lC 7 57 ?_; first | (refine Zhw ?_; intro q hq; clear hq q) | (refine Zhx ?_; (first | refine bad_end ?_ | refine bad_endM ?_); intro w hs)) | (refine lC 31 60 ?_; refine wl_call0 rfl rfl has60 rfl Zht ?_) | (refine lC 40 60 ?_; refine wl_call0 rfl rfl has60 rfl Zh7 ?_) | (refine lC 52 60 ?_; refine wl_call0 rfl rfl has60 rfl Zht ?_) | (refine lC _ 93 ?_; refine wl_callS rfl rfl has93 rfl Zbm ?_; intro bn hq; clear hq) | apply Wl.nil | (apply wl_buildSlice rfl rfl (slT rfl) (szT rfl) (zeroT rfl) rfl Zf6 rfl; exact Zt; intro b)) | (apply gQ; first | (apply Wq.ev rfl rfl; exact Zev)) | (apply lW; first | apply W.seq | apply W.region | apply W.block | (refine Zbk ?_) | (refine Zbg ?_) | (refine Zz ?_ ?_ <;> (intro h; try exact Za)) | (refine Zba ?_; intro w hs)))
  all_goals first | exact node_leaf hst1 hs Zo | contradiction
 | false =>
 rw [if_neg (by rw [cb]; simp)] at e
 rcases tk_cases (isA [[40]]) l1 with ⟨t2, l2, rfl, c2⟩ | c2
 ·have c2' : isA [[40]] ((t2 :: l2).headD ti0) = true := c2
  rw [if_neg (fun h => h.2 c2'), tkP_ok c2] at e
  have a2 := a1.next
  rcases bnd_cases e with ⟨e1, rfl⟩ | ⟨ps, l3, e1, e⟩
  ·obtain ⟨g, e1⟩ := list_ls e1
   cases cn : namedT t
   ·(refine Zbu ?_; simp only [argL])
    repeat' (first | (apply gL; first | (apply Wl.ev rfl rfl; exact Zu) | (refine lA 3 ?_; refine wl_alloc rfl rfl (zeroT rfl) ?_; intro b3) | (refine Zf8 ?_) | (refine lC 7 57 ?_; first | (refine Zhw ?_; intro q hq; clear hq q) | (refine Zhx ?_; (first | refine bad_end ?_ | refine bad_endM ?_); intro w hs)) | (refine lC 31 60 ?_; refine wl_call0 rfl rfl has60 rfl Zht ?_) | (refine lC 40 60 ?_; refine wl_call0 rfl rfl has60 rfl Zh7 ?_) | (refine lC 52 60 ?_; refine wl_call0 rfl rfl has60 rfl Zht ?_) | (refine lD 59 ?_; refine wl_call0 rfl rfl has59 rfl Zdv ?_) | (refine lC 67 95 ?_; first | (refine Zjs ?_; rintro ⟨ts, (_ | ⟨kb, cap, cur⟩)⟩ ⟨hoks, hown, hps⟩) | (refine Zjw ?_; (first | refine bad_end ?_ | refine bad_endM ?_); intro w hs)) | (refine lC 35 94 ?_; first | (refine Zho ?_; intro q hq; clear hq q) | (refine Zhp ?_; (first | refine bad_end ?_ | refine bad_endM ?_); intro w hs)) | (refine lC 60 94 ?_; first | (refine Zho ?_; intro q hq; clear hq q) | (refine Zhp ?_; (first | refine bad_end ?_ | refine bad_endM ?_); intro w hs)) | apply Wl.nil | (refine Zbr ?_) | (apply wl_buildSlice rfl rfl (slT rfl) (szT rfl) (zeroT rfl) rfl Zf6 rfl; exact Zt; intro b)) | (apply gQ; first | (apply Wq.ev rfl rfl; exact Zu)) | (apply lW; first | apply W.seq | ((show W _ _ _ _ _ _ (.inl (.region 16 _ true) :: _) _ _); refine W.regionM [] [⟨b3, true, row (tiC t) 67⟩] [⟨b3, true, row (tiC t) 67⟩] mixed ?_) | apply W.region | apply W.block | apply W.blk | apply W.skip | (refine Zbg ?_) | (refine Zz ?_ ?_ <;> (intro h; try exact Za))) | ((show Wm _ _ _ _ _ _ _ _ _ _ _ _ _ _ _ _); first | ((refine Zgg ?_)) | (refine Zgq ?_) | (refine Zgs ?_) | (refine Zh4 ?_) | (refine Zi6 ?_) | (refine Ziv ?_) | ((fail_if_success (refine Zbn ?_)); (refine Zgc ?_ ?_ <;> (intro h; try exact Za))) | ((fail_if_success (refine Zbn ?_)); (refine Zga ?_ ?_ <;> (intro h; try exact Za))) | apply Wm.next) | apply AllO.nil | apply AllO.cons | (refine Or.inl Zk) | ((show _ ∨ Wl _ _ _ _ _ _ _ _ _ _); apply Or.inr) | (refine Zg5 ?_))
    all_goals first | exact BadS.ofC hst1 hs Zo | contradiction
   ·(refine Zbu ?_; simp only [argL])
    repeat' (first | (apply gL; first | (apply Wl.ev rfl rfl; exact Zu) | (refine lA 3 ?_; refine wl_alloc rfl rfl (zeroT rfl) ?_; intro b3) | (refine Zf8 ?_) | (refine lC 7 57 ?_; first | (refine Zhw ?_; intro q hq; clear hq q) | (refine Zhx ?_; (first | refine bad_end ?_ | refine bad_endM ?_); intro w hs)) | (refine lC 31 60 ?_; refine wl_call0 rfl rfl has60 rfl Zht ?_) | (refine lC 40 60 ?_; refine wl_call0 rfl rfl has60 rfl Zh7 ?_) | (refine lC 52 60 ?_; refine wl_call0 rfl rfl has60 rfl Zht ?_) | (refine lD 59 ?_; refine wl_call0 rfl rfl has59 rfl Zdv ?_) | (refine lD 55 ?_; refine wl_call0 rfl rfl has55 rfl Ziz ?_) | (refine lC 67 95 ?_; first | (refine Zjs ?_; rintro ⟨ts, (_ | ⟨kb, cap, cur⟩)⟩ ⟨hoks, hown, hps⟩) | (refine Zjw ?_; (first | refine bad_end ?_ | refine bad_endM ?_); intro w hs)) | (refine lC 35 94 ?_; first | (refine Zho ?_; intro q hq; clear hq q) | (refine Zhp ?_; (first | refine bad_end ?_ | refine bad_endM ?_); intro w hs)) | (refine lC 60 94 ?_; first | (refine Zho ?_; intro q hq; clear hq q) | (refine Zhp ?_; (first | refine bad_end ?_ | refine bad_endM ?_); intro w hs)) | apply Wl.nil | (apply wl_buildSlice rfl rfl (slT rfl) (szT rfl) (zeroT rfl) rfl Zf6 rfl; exact Zt; intro b)) | (apply gQ; first | (apply Wq.ev rfl rfl; exact Zu)) | (apply lW; first | apply W.seq | ((show W _ _ _ _ _ _ (.inl (.region 16 _ true) :: _) _ _); refine W.regionM [] [⟨b3, true, row (tiC t) 67⟩] [⟨b3, true, row (tiC t) 67⟩] mixed ?_) | apply W.region | apply W.block | apply W.blk | apply W.skip | (refine Zbg ?_) | (refine Zz ?_ ?_ <;> (intro h; try exact Za))) | ((show Wm _ _ _ _ _ _ _ _ _ _ _ _ _ _ _ _); first | ((refine Zgg ?_)) | (refine Zgq ?_) | (refine Zgs ?_) | (refine Zh4 ?_) | (refine Zi6 ?_) | (refine Ziv ?_) | ((fail_if_success (refine Zbn ?_)); (refine Zgc ?_ ?_ <;> (intro h; try exact Za))) | ((fail_if_success (refine Zbn ?_)); (refine Zga ?_ ?_ <;> (intro h; try exact Za))) | apply Wm.next) | apply AllO.nil | apply AllO.cons | (refine Or.inl Zk) | ((show _ ∨ Wl _ _ _ _ _ _ _ _ _ _); apply Or.inr) | (refine Zg5 ?_))
    all_goals first | exact BadS.ofC hst1 hs Zo | contradiction
  ·cases e
   obtain ⟨g, e1⟩ := list_ls e1
   cases cn : namedT t
   ·(refine Zbu ?_; simp only [argL])
    repeat' (first | (apply gL; first | (apply Wl.ev rfl rfl; exact Zu) | (refine lA 3 ?_; refine wl_alloc rfl rfl (zeroT rfl) ?_; intro b3) | (refine Zf8 ?_) | (refine lC 7 57 ?_; first | (refine Zhw ?_; intro q hq; clear hq q) | (refine Zhx ?_; (first | refine bad_end ?_ | refine bad_endM ?_); intro w hs)) | (refine lC 31 60 ?_; refine wl_call0 rfl rfl has60 rfl Zht ?_) | (refine lC 40 60 ?_; refine wl_call0 rfl rfl has60 rfl Zh7 ?_) | (refine lC 52 60 ?_; refine wl_call0 rfl rfl has60 rfl Zht ?_) | (refine lD 59 ?_; refine wl_call0 rfl rfl has59 rfl Zdv ?_) | (refine lC 67 95 ?_; first | (refine Zjs ?_; rintro ⟨ts, (_ | ⟨kb, cap, cur⟩)⟩ ⟨hoks, hown, hps⟩) | (refine Zjw ?_; (first | refine bad_end ?_ | refine bad_endM ?_); intro w hs)) | (refine lC 35 94 ?_; first | (refine Zho ?_; intro q hq; clear hq q) | (refine Zhp ?_; (first | refine bad_end ?_ | refine bad_endM ?_); intro w hs)) | (refine lC 60 94 ?_; first | (refine Zho ?_; intro q hq; clear hq q) | (refine Zhp ?_; (first | refine bad_end ?_ | refine bad_endM ?_); intro w hs)) | (refine lC _ 93 ?_; refine wl_callS rfl rfl has93 rfl Zbm ?_; intro bn hq; clear hq) | apply Wl.nil | (refine Zbr ?_) | (apply wl_buildSlice rfl rfl (slT rfl) (szT rfl) (zeroT rfl) rfl Zf6 rfl; exact Zt; intro b)) | (apply gQ; first | (apply Wq.ev rfl rfl; exact Zu)) | (apply lW; first | apply W.seq | ((show W _ _ _ _ _ _ (.inl (.region 16 _ true) :: _) _ _); refine W.regionM [] [⟨b3, true, row (tiC t) 67⟩] [⟨b3, true, row (tiC t) 67⟩] mixed ?_) | apply W.region | apply W.block | apply W.blk | apply W.skip | (refine Zbg ?_) | (refine Zz ?_ ?_ <;> (intro h; try exact Za)) | (refine Zba ?_; intro w hs)) | ((show Wm _ _ _ _ _ _ _ _ _ _ _ _ _ _ _ _); first | ((refine Zgg ?_)) | (refine Zgq ?_) | (refine Zgs ?_) | (refine Zh4 ?_) | (refine Zi6 ?_) | (refine Ziv ?_) | ((fail_if_success (refine Zbn ?_)); (refine Zgc ?_ ?_ <;> (intro h; try exact Za))) | ((fail_if_success (refine Zbn ?_)); (refine Zga ?_ ?_ <;> (intro h; try exact Za))) | apply Wm.next) | apply AllO.nil | apply AllO.cons | (refine Or.inl Zk) | ((show _ ∨ Wl _ _ _ _ _ _ _ _ _ _); apply Or.inr) | (refine Zg5 ?_))
    all_goals first | (exact GivesS.ofC hst1 hs (.mk bn 17 [] t.t 0 t.a none ts) ⟨by rw [tnOk]; exact ⟨hown, hoks⟩, by rw [tnP, hps]; rfl⟩ rfl Zdd) | (exact GivesS.ofC hst1 hs (.mk bn 17 [] t.t 0 t.a (some (kb, cap, cur)) ts) ⟨by rw [tnOk]; exact ⟨hown, hoks⟩, by rw [tnP, hps]; rfl⟩ rfl Zdd) | contradiction
   ·(refine Zbu ?_; simp only [argL])
    repeat' (first | (apply gL; first | (apply Wl.ev rfl rfl; exact Zu) | (refine lA 3 ?_; refine wl_alloc rfl rfl (zeroT rfl) ?_; intro b3) | (refine Zf8 ?_) | (refine lC 7 57 ?_; first | (refine Zhw ?_; intro q hq; clear hq q) | (refine Zhx ?_; (first | refine bad_end ?_ | refine bad_endM ?_); intro w hs)) | (refine lC 31 60 ?_; refine wl_call0 rfl rfl has60 rfl Zht ?_) | (refine lC 40 60 ?_; refine wl_call0 rfl rfl has60 rfl Zh7 ?_) | (refine lC 52 60 ?_; refine wl_call0 rfl rfl has60 rfl Zht ?_) | (refine lD 59 ?_; refine wl_call0 rfl rfl has59 rfl Zdv ?_) | (refine lD 55 ?_; refine wl_call0 rfl rfl has55 rfl Ziz ?_) | (refine lC 67 95 ?_; first | (refine Zjs ?_; rintro ⟨ts, (_ | ⟨kb, cap, cur⟩)⟩ ⟨hoks, hown, hps⟩) | (refine Zjw ?_; (first | refine bad_end ?_ | refine bad_endM ?_); intro w hs)) | (refine lC 35 94 ?_; first | (refine Zho ?_; intro q hq; clear hq q) | (refine Zhp ?_; (first | refine bad_end ?_ | refine bad_endM ?_); intro w hs)) | (refine lC 60 94 ?_; first | (refine Zho ?_; intro q hq; clear hq q) | (refine Zhp ?_; (first | refine bad_end ?_ | refine bad_endM ?_); intro w hs)) | (refine lC _ 93 ?_; refine wl_callS rfl rfl has93 rfl Zbm ?_; intro bn hq; clear hq) | apply Wl.nil | (apply wl_buildSlice rfl rfl (slT rfl) (szT rfl) (zeroT rfl) rfl Zf6 rfl; exact Zt; intro b)) | (apply gQ; first | (apply Wq.ev rfl rfl; exact Zu)) | (apply lW; first | apply W.seq | ((show W _ _ _ _ _ _ (.inl (.region 16 _ true) :: _) _ _); refine W.regionM [] [⟨b3, true, row (tiC t) 67⟩] [⟨b3, true, row (tiC t) 67⟩] mixed ?_) | apply W.region | apply W.block | apply W.blk | apply W.skip | (refine Zbg ?_) | (refine Zz ?_ ?_ <;> (intro h; try exact Za)) | (refine Zba ?_; intro w hs)) | ((show Wm _ _ _ _ _ _ _ _ _ _ _ _ _ _ _ _); first | ((refine Zgg ?_)) | (refine Zgq ?_) | (refine Zgs ?_) | (refine Zh4 ?_) | (refine Zi6 ?_) | (refine Ziv ?_) | ((fail_if_success (refine Zbn ?_)); (refine Zgc ?_ ?_ <;> (intro h; try exact Za))) | ((fail_if_success (refine Zbn ?_)); (refine Zga ?_ ?_ <;> (intro h; try exact Za))) | apply Wm.next) | apply AllO.nil | apply AllO.cons | (refine Or.inl Zk) | ((show _ ∨ Wl _ _ _ _ _ _ _ _ _ _); apply Or.inr) | (refine Zg5 ?_))
    all_goals first | (exact GivesS.ofC hst1 hs (.mk bn 17 [] t.t 0 t.a none ts) ⟨by rw [tnOk]; exact ⟨hown, hoks⟩, by rw [tnP, hps]; rfl⟩ rfl Zdd) | (exact GivesS.ofC hst1 hs (.mk bn 17 [] t.t 0 t.a (some (kb, cap, cur)) ts) ⟨by rw [tnOk]; exact ⟨hown, hoks⟩, by rw [tnP, hps]; rfl⟩ rfl Zdd) | contradiction
 ·have c2' := okT_head c2
  cases cn : namedT t with
  | true =>
   rw [if_pos ⟨cn, by rw [c2']; simp⟩] at e
   cases e
   rw [← a1.len] at p2
   (refine Zbu ?_; simp only [argL])
   repeat' (first | (apply gL; first | (apply Wl.ev rfl rfl; exact Zev) | (refine lA 3 ?_; refine wl_alloc rfl rfl (zeroT rfl) ?_; intro b3) | (refine Zf8 ?_) | (refine lC 7 57 ?_; first | (refine Zhw ?_; intro q hq; clear hq q) | (refine Zhx ?_; (first | refine bad_end ?_ | refine bad_endM ?_); intro w hs)) | (refine lC 31 60 ?_; refine wl_call0 rfl rfl has60 rfl Zht ?_) | (refine lC 40 60 ?_; refine wl_call0 rfl rfl has60 rfl Zh7 ?_) | (refine lC 52 60 ?_; refine wl_call0 rfl rfl has60 rfl Zht ?_) | (refine lD 59 ?_; refine wl_call0 rfl rfl has59 rfl Zdv ?_) | (refine lD 55 ?_; refine wl_call0 rfl rfl has55 rfl Ziz ?_) | (refine lC _ 93 ?_; refine wl_callS rfl rfl has93 rfl Zbm ?_; intro bn hq; clear hq) | apply Wl.nil | (apply wl_buildSlice rfl rfl (slT rfl) (szT rfl) (zeroT rfl) rfl Zf6 rfl; exact Zt; intro b)) | (apply gQ; first | (apply Wq.ev rfl rfl; exact Zev)) | (apply lW; first | apply W.seq | apply W.region | apply W.block | (refine Zbk ?_) | (refine Zbg ?_) | (refine Zz ?_ ?_ <;> (intro h; try exact Za)) | (refine Zba ?_; intro w hs)))
   all_goals first | exact node_leaf hst1 hs Zo | contradiction
  | false =>
   rw [if_neg (fun h => by rw [cn] at h; cases h.1), tkP_bad c2] at e
   cases e
   rw [← a1.len] at p2
   (refine Zbu ?_; simp only [argL])
   repeat' (first | (apply gL; first | (apply Wl.ev rfl rfl; exact Zev) | (refine lA 3 ?_; refine wl_alloc rfl rfl (zeroT rfl) ?_; intro b3) | (refine Zf8 ?_) | (refine lC 7 57 ?_; first | (refine Zhw ?_; intro q hq; clear hq q) | (refine Zhx ?_; (first | refine bad_end ?_ | refine bad_endM ?_); intro w hs)) | (refine lC 31 60 ?_; refine wl_call0 rfl rfl has60 rfl Zht ?_) | (refine lC 40 60 ?_; refine wl_call0 rfl rfl has60 rfl Zh7 ?_) | (refine lC 52 60 ?_; refine wl_call0 rfl rfl has60 rfl Zht ?_) | (refine lD 59 ?_; refine wl_call0 rfl rfl has59 rfl Zdv ?_) | (refine lC 35 94 ?_; first | (refine Zho ?_; intro q hq; clear hq q) | (refine Zhp ?_; (first | refine bad_end ?_ | refine bad_endM ?_); intro w hs)) | (refine lC 60 94 ?_; first | (refine Zho ?_; intro q hq; clear hq q) | (refine Zhp ?_; (first | refine bad_end ?_ | refine bad_endM ?_); intro w hs)) | apply Wl.nil | (refine Zbr ?_) | (apply wl_buildSlice rfl rfl (slT rfl) (szT rfl) (zeroT rfl) rfl Zf6 rfl; exact Zt; intro b)) | (apply gQ; first | (apply Wq.ev rfl rfl; exact Zev)) | (apply lW; first | apply W.seq | apply W.region | apply W.block | apply W.blk | apply W.skip | (refine Zbg ?_) | (refine Zz ?_ ?_ <;> (intro h; try exact Za))))
   all_goals first | exact BadS.ofC hst1 hs Zo | contradiction
end Go.Proofs.YtbinaeemcidicaaGreatDoor
