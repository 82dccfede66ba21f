/- Walks: what stands alone. No condition. -/
import Derived.Test.YtbinaeemcidicaaGreatZPT
set_option maxRecDepth 100000
set_option maxHeartbeats 16000000
namespace Go.Proofs.YtbinaeemcidicaaGreat
open Go.PB Go.RowKit
attribute [local irreducible] Go.Calls
theorem fst1_ok {M : List Nat} {w0 w : World} {H : List Ent} (t : Ti) (_ : St M w0 w H) : Calls Tryz.prog 131 #[tiV t] w (Give (.bool (fstT t)) w) := by
 refine give_of_W (vs := [tiV t]) Tryz.func131 rfl Tryz.ntmps131 (Nat.le_of_ble_eq_true rfl) (St.nil w _) ?_
 simp only [argL]
 have h1 : ∀ w, Calls Tryz.prog 48 #[tiV t] w (Give (.bool (typedT t)) w) := typed_ok t
 have h2 : ∀ w, Calls Tryz.prog 49 #[tiV t] w (Give (.bool (namedT t)) w) := named_ok t
 have h3 : ∀ {H : List Ent} (q : Nat) (w' : World), St [] w w' H → (⟨q, true, row [st [116, 114, 117, 101], st [102, 97, 108, 115, 101], st [40]] 9⟩ : Ent) ∈ H → Calls Tryz.prog 50 #[tiV t, .slice (some ⟨q, 0, none⟩) 3 3] w' (Give (.bool (isA [[116, 114, 117, 101], [102, 97, 108, 115, 101], [40]] t)) w') := fun q w' hs hm => pis (s := [[116, 114, 117, 101], [102, 97, 108, 115, 101], [40]]) hs hm rfl rfl Zf7
 unfold fstT
 obtain ⟨q1, e1⟩ : ∃ q, typedT t = q := ⟨_, rfl⟩
 obtain ⟨q2, e2⟩ : ∃ q, namedT t = q := ⟨_, rfl⟩
 obtain ⟨q3, e3⟩ : ∃ q, isA [[116, 114, 117, 101], [102, 97, 108, 115, 101], [40]] t = q := ⟨_, rfl⟩
 rw [e1] at h1 ⊢
 rw [e2] at h2 ⊢
 rw [e3] at h3 ⊢
 clear e1 e2 e3
 obtain ⟨k, tx, x, a, n⟩ := t
 dsimp only [tiV, tiC] at h1 h2 h3 ⊢
 by_cases hk : k = 2
 ·rw [decide_eq_true hk]
  repeat' (first | (apply gL; first | (apply Wl.ev rfl rfl; exact Zcr) | (refine lB _ ?_; refine wl_box rfl rfl rfl rfl ?_; intro bt) | apply Wl.nil | (refine Zbb ?_)) | (apply gQ; first | (apply Wq.ev rfl rfl; exact Zcr)) | (apply lW; first | apply W.seq | apply W.region | (refine Zx ?_; intro w hs)))
  all_goals first | exact ret_eq hs rfl | contradiction
 by_cases hk3 : k = 3
 ·rw [decide_eq_false hk, decide_eq_true hk3]
  repeat' (first | (apply gL; first | (apply Wl.ev rfl rfl; exact Zez) | (refine lB _ ?_; refine wl_box rfl rfl rfl rfl ?_; intro bt) | apply Wl.nil | (refine Zbb ?_)) | (apply gQ; first | (apply Wq.ev rfl rfl; exact Zez)) | (apply lW; first | apply W.seq | apply W.region | (refine Zx ?_; intro w hs)))
  all_goals first | exact ret_eq hs rfl | contradiction
 rw [decide_eq_false hk, decide_eq_false hk3]
 cases q1
 ·cases q2
  ·repeat' (first | (apply gL; first | (apply Wl.ev rfl rfl; exact Zb6) | (refine lB _ ?_; refine wl_box rfl rfl rfl rfl ?_; intro bt) | (refine lD 48 ?_; refine wl_call0 rfl rfl has48 rfl (fun w hs => h1 w) ?_) | (refine lD 49 ?_; refine wl_call0 rfl rfl has49 rfl Zf3 ?_) | (refine lD 50 ?_; refine wl_call0 rfl rfl has50 rfl (fun w hs => h3 _ w hs Zd) ?_) | apply Wl.nil | (apply wl_buildSlice rfl rfl (slT rfl) (szT rfl) (zeroT rfl) rfl Zf7 rfl; exact Zq; intro b)) | (apply gQ; first | (apply Wq.ev rfl rfl; exact Zb6)) | (apply lW; first | apply W.seq | apply W.region | (refine Zx ?_; intro w hs)))
   all_goals first | exact ret_eq hs rfl | contradiction
  ·repeat' (first | (apply gL; first | (apply Wl.ev rfl rfl; exact Zb6) | (refine lB _ ?_; refine wl_box rfl rfl rfl rfl ?_; intro bt) | (refine lD 48 ?_; refine wl_call0 rfl rfl has48 rfl (fun w hs => h1 w) ?_) | (refine lD 49 ?_; refine wl_call0 rfl rfl has49 rfl Zf3 ?_) | apply Wl.nil | (refine Zbb ?_)) | (apply gQ; first | (apply Wq.ev rfl rfl; exact Zb6)) | (apply lW; first | apply W.seq | apply W.region | (refine Zx ?_; intro w hs)))
   all_goals first | exact ret_eq hs rfl | contradiction
 ·repeat' (first | (apply gL; first | (apply Wl.ev rfl rfl; exact Zb6) | (refine lB _ ?_; refine wl_box rfl rfl rfl rfl ?_; intro bt) | (refine lD 48 ?_; refine wl_call0 rfl rfl has48 rfl (fun w hs => h1 w) ?_) | (refine lD 49 ?_; refine wl_call0 rfl rfl has49 rfl Zf3 ?_) | apply Wl.nil | (refine Zbb ?_)) | (apply gQ; first | (apply Wq.ev rfl rfl; exact Zb6)) | (apply lW; first | apply W.seq | apply W.region | (refine Zx ?_; intro w hs)))
  all_goals first | exact ret_eq hs rfl | contradiction
theorem fst_pred : PredE (fnV 131 [] []) fstT [] := ⟨_, _, rfl, has131, fun t hst _ => fst1_ok t hst⟩
theorem first_step {f : Nat} (ihe : NodeC f .expr 77 []) : NodeC (f + 1) .fst 129 [] := by
 intro M w0 w H K TR r a lv L l l' o hst hu hT hm hl e
 (obtain ⟨A, p1, p2⟩ := hu.front; have hTA : ∀ e ∈ TR, e ∈ A := fun e he => mem_front p1 (hm e he) (hT.2.1 e he); have hst1 := hst.perm p1; have hlim := hT.2.2.1)
 rw [pF] at e
 rcases tk_cases fstT l with ⟨t, l1, rfl, c⟩ | c
 case inr =>
  rw [tkP_bad c] at e
  cases e
  rw [← hl.len] at p2
  (refine Zby ?_; simp only [argL])
  repeat' (first | (apply gL; first | (apply Wl.ev rfl rfl; exact Zev) | (refine lC 7 47 ?_; first | (refine Zie ?_; intro q hq; clear hq q) | (refine Zig ?_; (first | refine bad_end ?_ | refine bad_endM ?_); intro w hs)) | apply Wl.nil) | (apply gQ; first | (apply Wq.ev rfl rfl; exact Zev)) | (apply lW; first | apply W.seq | apply W.region))
  all_goals first | exact BadS.ofC hst1 hs Zn
 rw [tkP_ok c] at e
 have a1 := hl.next
 by_cases hk : t.k = 2 ∨ t.k = 3
 ·rw [if_pos hk] at e
  cases e
  rw [← a1.len] at p2
  (refine Zby ?_; simp only [argL])
  repeat' (first | (apply gL; first | (apply Wl.ev rfl rfl; exact Zev) | (refine Zey ?_; refine wl_alloc rfl rfl (zeroT rfl) ?_; intro b3) | (refine Zf6 ?_) | (refine lC 7 47 ?_; first | (refine Zie ?_; intro q hq; clear hq q) | (refine Zig ?_; (first | refine bad_end ?_ | refine bad_endM ?_); intro w hs)) | (refine lC _ 71 ?_; refine wl_callS rfl rfl has71 rfl Zbr ?_; intro bn hq; clear hq) | apply Wl.nil | (refine Zf9 ?_; try simp only [List.set])) | (apply gQ; first | (apply Wq.ev rfl rfl; exact Zev)) | (apply lW; first | apply W.seq | apply W.region | apply W.block | apply W.skip | (refine Zv ?_ ?_ <;> (intro h; try exact Zh)) | (refine Zx ?_; intro w hs)))
  all_goals first | exact node_leaf hst1 (show St _ _ w (⟨bn, true, ndO (20 + t.k - 2) [] [] t.x t.a (.slice none 0 0)⟩ :: ⟨b3, true, row (tiC t) 42⟩ :: ⟨r, true, rdP lv (a + 1)⟩ :: A) from hs) Zn | exact Zz
 rw [if_neg hk] at e
 have hk2 : ¬t.k = 2 := fun h => hk (.inl h)
 have hk3 : ¬t.k = 3 := fun h => hk (.inr h)
 cases cp : isA [[40]] t with
 | true =>
  rw [if_pos cp] at e
  rcases bnd_cases e with ⟨e1, rfl⟩ | ⟨ps, l2, e1, e⟩
  ·(refine Zby ?_; simp only [argL])
   repeat' (first | (apply gL; first | (apply Wl.ev rfl rfl; exact Zev) | (refine Zey ?_; refine wl_alloc rfl rfl (zeroT rfl) ?_; intro b3) | (refine Zf6 ?_) | (refine lC 7 47 ?_; first | (refine Zie ?_; intro q hq; clear hq q) | (refine Zig ?_; (first | refine bad_end ?_ | refine bad_endM ?_); intro w hs)) | (refine lC 33 77 ?_; first | (refine Zii ?_; rintro t1 ⟨hok1, hp1⟩) | (refine Zik ?_; (first | refine bad_end ?_ | refine bad_endM ?_); intro w hs)) | (refine lC 31 50 ?_; refine wl_call0 rfl rfl has50 rfl Zh9 ?_) | (refine lC 52 50 ?_; refine wl_call0 rfl rfl has50 rfl Zh9 ?_) | apply Wl.nil | (apply wl_buildSlice rfl rfl (slT rfl) (szT rfl) (zeroT rfl) rfl Zf7 rfl; exact Zq; intro b)) | (apply gQ; first | (apply Wq.ev rfl rfl; exact Zev)) | (apply lW; first | apply W.seq | apply W.region | apply W.block | (refine Zbh ?_) | (refine Zv ?_ ?_ <;> (intro h; try exact Za))))
   all_goals first | exact BadS.ofC hst1 hs Zn | contradiction
  have a2 := a1.step e1
  rcases tk_cases (isA [[41]]) l2 with ⟨t3, l3, rfl, c3⟩ | c3
  ·rw [tkP_ok c3] at e
   have a3 := a2.next
   cases e
   rw [← a3.len] at p2
   (refine Zby ?_; simp only [argL])
   repeat' (first | (apply gL; first | (apply Wl.ev rfl rfl; exact Zev) | (refine Zey ?_; refine wl_alloc rfl rfl (zeroT rfl) ?_; intro b3) | (refine Zf6 ?_) | (refine lC 7 47 ?_; first | (refine Zie ?_; intro q hq; clear hq q) | (refine Zig ?_; (first | refine bad_end ?_ | refine bad_endM ?_); intro w hs)) | (refine lC 33 77 ?_; first | (refine Zii ?_; rintro t1 ⟨hok1, hp1⟩) | (refine Zik ?_; (first | refine bad_end ?_ | refine bad_endM ?_); intro w hs)) | (refine lC 31 50 ?_; refine wl_call0 rfl rfl has50 rfl Zh9 ?_) | (refine lC 52 50 ?_; refine wl_call0 rfl rfl has50 rfl Zh9 ?_) | (refine lC 35 72 ?_; first | (refine Zh1 ?_; intro q hq; clear hq q) | (refine Zh2 ?_; (first | refine bad_end ?_ | refine bad_endM ?_); intro w hs)) | (refine lC 60 72 ?_; first | (refine Zh1 ?_; intro q hq; clear hq q) | (refine Zh2 ?_; (first | refine bad_end ?_ | refine bad_endM ?_); intro w hs)) | apply Wl.nil | (apply wl_buildSlice rfl rfl (slT rfl) (szT rfl) (zeroT rfl) rfl Zf7 rfl; exact Zq; intro b)) | (apply gQ; first | (apply Wq.ev rfl rfl; exact Zev)) | (apply lW; first | apply W.seq | apply W.region | apply W.block | (refine Zbh ?_) | (refine Zv ?_ ?_ <;> (intro h; try exact Za)) | (refine Zx ?_; intro w hs)))
   all_goals first | exact GivesS.ofC hst1 hs t1 ⟨hok1, hp1⟩ rfl Zn | contradiction
  ·rw [tkP_bad c3] at e
   cases e
   (refine Zby ?_; simp only [argL])
   repeat' (first | (apply gL; first | (apply Wl.ev rfl rfl; exact Zev) | (refine Zey ?_; refine wl_alloc rfl rfl (zeroT rfl) ?_; intro b3) | (refine Zf6 ?_) | (refine lC 7 47 ?_; first | (refine Zie ?_; intro q hq; clear hq q) | (refine Zig ?_; (first | refine bad_end ?_ | refine bad_endM ?_); intro w hs)) | (refine lC 33 77 ?_; first | (refine Zii ?_; rintro t1 ⟨hok1, hp1⟩) | (refine Zik ?_; (first | refine bad_end ?_ | refine bad_endM ?_); intro w hs)) | (refine lC 31 50 ?_; refine wl_call0 rfl rfl has50 rfl Zh9 ?_) | (refine lC 52 50 ?_; refine wl_call0 rfl rfl has50 rfl Zh9 ?_) | (refine lC 35 72 ?_; first | (refine Zh1 ?_; intro q hq; clear hq q) | (refine Zh2 ?_; (first | refine bad_end ?_ | refine bad_endM ?_); intro w hs)) | (refine lC 60 72 ?_; first | (refine Zh1 ?_; intro q hq; clear hq q) | (refine Zh2 ?_; (first | refine bad_end ?_ | refine bad_endM ?_); intro w hs)) | apply Wl.nil | (apply wl_buildSlice rfl rfl (slT rfl) (szT rfl) (zeroT rfl) rfl Zf7 rfl; exact Zq; intro b)) | (apply gQ; first | (apply Wq.ev rfl rfl; exact Zev)) | (apply lW; first | apply W.seq | apply W.region | apply W.block | (refine Zbh ?_) | (refine Zv ?_ ?_ <;> (intro h; try exact Za))))
   all_goals first | exact BadS.ofC hst1 hs Zn | contradiction
 | false =>
 rw [if_neg (by rw [cp]; simp)] at e
 cases cb : isA [[116, 114, 117, 101], [102, 97, 108, 115, 101]] t with
 | true =>
  rw [if_pos cb] at e
  cases e
  rw [← a1.len] at p2
  (refine Zby ?_; simp only [argL])
  repeat' (first | (apply gL; first | (apply Wl.ev rfl rfl; exact Zev) | (refine Zey ?_; refine wl_alloc rfl rfl (zeroT rfl) ?_; intro b3) | (refine Zf6 ?_) | (refine lC 7 47 ?_; first | (refine Zie ?_; intro q hq; clear hq q) | (refine Zig ?_; (first | refine bad_end ?_ | refine bad_endM ?_); intro w hs)) | (refine lC 31 50 ?_; refine wl_call0 rfl rfl has50 rfl Zh9 ?_) | (refine lC 40 50 ?_; refine wl_call0 rfl rfl has50 rfl Zir ?_) | (refine lC 52 50 ?_; refine wl_call0 rfl rfl has50 rfl Zh9 ?_) | (refine lC _ 71 ?_; refine wl_callS rfl rfl has71 rfl Zbr ?_; intro bn hq; clear hq) | apply Wl.nil | (apply wl_buildSlice rfl rfl (slT rfl) (szT rfl) (zeroT rfl) rfl Zf7 rfl; exact Zq; intro b)) | (apply gQ; first | (apply Wq.ev rfl rfl; exact Zev)) | (apply lW; first | apply W.seq | apply W.region | apply W.block | (refine Zbh ?_) | (refine Zbc ?_) | (refine Zv ?_ ?_ <;> (intro h; try exact Za)) | (refine Zx ?_; intro w hs)))
  all_goals first | exact node_leaf hst1 hs Zn | contradiction
 | false =>
 rw [if_neg (by rw [cb]; simp)] at e
 rcases tk_cases (isA [[40]]) l1 with ⟨t2, l2, rfl, c2⟩ | c2
 ·have c2' : isA [[40]] ((t2 :: l2).headD ti0) = true := c2
  rw [if_neg (fun h => h.2 c2'), tkP_ok c2] at e
  have a2 := a1.next
  rcases bnd_cases e with ⟨e1, rfl⟩ | ⟨ps, l3, e1, e⟩
  ·obtain ⟨g, e1⟩ := list_ls e1
   cases cn : namedT t
   ·(refine Zby ?_; simp only [argL])
    repeat' (first | (apply gL; first | (apply Wl.ev rfl rfl; exact Zy) | (refine Zey ?_; refine wl_alloc rfl rfl (zeroT rfl) ?_; intro b3) | (refine Zf6 ?_) | (refine lC 7 47 ?_; first | (refine Zie ?_; intro q hq; clear hq q) | (refine Zig ?_; (first | refine bad_end ?_ | refine bad_endM ?_); intro w hs)) | (refine lC 31 50 ?_; refine wl_call0 rfl rfl has50 rfl Zh9 ?_) | (refine lC 40 50 ?_; refine wl_call0 rfl rfl has50 rfl Zir ?_) | (refine lC 52 50 ?_; refine wl_call0 rfl rfl has50 rfl Zh9 ?_) | (refine lD 49 ?_; refine wl_call0 rfl rfl has49 rfl Zei ?_) | (refine lC 67 73 ?_; first | (refine Zka ?_; rintro ⟨ts, (_ | ⟨kb, cap, cur⟩)⟩ ⟨hoks, hown, hps⟩) | (refine Zkf ?_; (first | refine bad_end ?_ | refine bad_endM ?_); intro w hs)) | (refine lC 35 72 ?_; first | (refine Zh1 ?_; intro q hq; clear hq q) | (refine Zh2 ?_; (first | refine bad_end ?_ | refine bad_endM ?_); intro w hs)) | (refine lC 60 72 ?_; first | (refine Zh1 ?_; intro q hq; clear hq q) | (refine Zh2 ?_; (first | refine bad_end ?_ | refine bad_endM ?_); intro w hs)) | apply Wl.nil | (refine Zbb ?_) | (apply wl_buildSlice rfl rfl (slT rfl) (szT rfl) (zeroT rfl) rfl Zf7 rfl; exact Zq; intro b)) | (apply gQ; first | (apply Wq.ev rfl rfl; exact Zy)) | (apply lW; first | apply W.seq | ((show W _ _ _ _ _ _ (.inl (.region 16 _ true) :: _) _ _); refine W.regionM [] [⟨b3, true, row (tiC t) 42⟩] [⟨b3, true, row (tiC t) 42⟩] mixed ?_) | apply W.region | apply W.block | apply W.blk | apply W.skip | (refine Zbc ?_) | (refine Zv ?_ ?_ <;> (intro h; try exact Za))) | ((show Wm _ _ _ _ _ _ _ _ _ _ _ _ _ _ _ _); first | ((refine Zgg ?_)) | (refine Zgj ?_) | (refine Zgm ?_) | (refine Zhz ?_) | (refine Zjq ?_) | (refine Zjc ?_) | ((fail_if_success (refine Zba ?_)); (refine Zgd ?_ ?_ <;> (intro h; try exact Za))) | ((fail_if_success (refine Zba ?_)); (refine Zgc ?_ ?_ <;> (intro h; try exact Za))) | apply Wm.next) | apply AllO.nil | apply AllO.cons | (refine Or.inl Zj) | ((show _ ∨ Wl _ _ _ _ _ _ _ _ _ _); apply Or.inr) | (refine Zgl ?_))
    all_goals first | exact BadS.ofC hst1 hs Zn | contradiction
   ·(refine Zby ?_; simp only [argL])
    repeat' (first | (apply gL; first | (apply Wl.ev rfl rfl; exact Zy) | (refine Zey ?_; refine wl_alloc rfl rfl (zeroT rfl) ?_; intro b3) | (refine Zf6 ?_) | (refine lC 7 47 ?_; first | (refine Zie ?_; intro q hq; clear hq q) | (refine Zig ?_; (first | refine bad_end ?_ | refine bad_endM ?_); intro w hs)) | (refine lC 31 50 ?_; refine wl_call0 rfl rfl has50 rfl Zh9 ?_) | (refine lC 40 50 ?_; refine wl_call0 rfl rfl has50 rfl Zir ?_) | (refine lC 52 50 ?_; refine wl_call0 rfl rfl has50 rfl Zh9 ?_) | (refine lD 49 ?_; refine wl_call0 rfl rfl has49 rfl Zei ?_) | (refine lD 45 ?_; refine wl_call0 rfl rfl has45 rfl Zjg ?_) | (refine lC 67 73 ?_; first | (refine Zka ?_; rintro ⟨ts, (_ | ⟨kb, cap, cur⟩)⟩ ⟨hoks, hown, hps⟩) | (refine Zkf ?_; (first | refine bad_end ?_ | refine bad_endM ?_); intro w hs)) | (refine lC 35 72 ?_; first | (refine Zh1 ?_; intro q hq; clear hq q) | (refine Zh2 ?_; (first | refine bad_end ?_ | refine bad_endM ?_); intro w hs)) | (refine lC 60 72 ?_; first | (refine Zh1 ?_; intro q hq; clear hq q) | (refine Zh2 ?_; (first | refine bad_end ?_ | refine bad_endM ?_); intro w hs)) | apply Wl.nil | (apply wl_buildSlice rfl rfl (slT rfl) (szT rfl) (zeroT rfl) rfl Zf7 rfl; exact Zq; intro b)) | (apply gQ; first | (apply Wq.ev rfl rfl; exact Zy)) | (apply lW; first | apply W.seq | ((show W _ _ _ _ _ _ (.inl (.region 16 _ true) :: _) _ _); refine W.regionM [] [⟨b3, true, row (tiC t) 42⟩] [⟨b3, true, row (tiC t) 42⟩] mixed ?_) | apply W.region | apply W.block | apply W.blk | apply W.skip | (refine Zbc ?_) | (refine Zv ?_ ?_ <;> (intro h; try exact Za))) | ((show Wm _ _ _ _ _ _ _ _ _ _ _ _ _ _ _ _); first | ((refine Zgg ?_)) | (refine Zgj ?_) | (refine Zgm ?_) | (refine Zhz ?_) | (refine Zjq ?_) | (refine Zjc ?_) | ((fail_if_success (refine Zba ?_)); (refine Zgd ?_ ?_ <;> (intro h; try exact Za))) | ((fail_if_success (refine Zba ?_)); (refine Zgc ?_ ?_ <;> (intro h; try exact Za))) | apply Wm.next) | apply AllO.nil | apply AllO.cons | (refine Or.inl Zj) | ((show _ ∨ Wl _ _ _ _ _ _ _ _ _ _); apply Or.inr) | (refine Zgl ?_))
    all_goals first | exact BadS.ofC hst1 hs Zn | contradiction
  ·cases e
   obtain ⟨g, e1⟩ := list_ls e1
   cases cn : namedT t
   ·(refine Zby ?_; simp only [argL])
    repeat' (first | (apply gL; first | (apply Wl.ev rfl rfl; exact Zy) | (refine Zey ?_; refine wl_alloc rfl rfl (zeroT rfl) ?_; intro b3) | (refine Zf6 ?_) | (refine lC 7 47 ?_; first | (refine Zie ?_; intro q hq; clear hq q) | (refine Zig ?_; (first | refine bad_end ?_ | refine bad_endM ?_); intro w hs)) | (refine lC 31 50 ?_; refine wl_call0 rfl rfl has50 rfl Zh9 ?_) | (refine lC 40 50 ?_; refine wl_call0 rfl rfl has50 rfl Zir ?_) | (refine lC 52 50 ?_; refine wl_call0 rfl rfl has50 rfl Zh9 ?_) | (refine lD 49 ?_; refine wl_call0 rfl rfl has49 rfl Zei ?_) | (refine lC 67 73 ?_; first | (refine Zka ?_; rintro ⟨ts, (_ | ⟨kb, cap, cur⟩)⟩ ⟨hoks, hown, hps⟩) | (refine Zkf ?_; (first | refine bad_end ?_ | refine bad_endM ?_); intro w hs)) | (refine lC 35 72 ?_; first | (refine Zh1 ?_; intro q hq; clear hq q) | (refine Zh2 ?_; (first | refine bad_end ?_ | refine bad_endM ?_); intro w hs)) | (refine lC 60 72 ?_; first | (refine Zh1 ?_; intro q hq; clear hq q) | (refine Zh2 ?_; (first | refine bad_end ?_ | refine bad_endM ?_); intro w hs)) | (refine lC _ 71 ?_; refine wl_callS rfl rfl has71 rfl Zbr ?_; intro bn hq; clear hq) | apply Wl.nil | (refine Zbb ?_) | (apply wl_buildSlice rfl rfl (slT rfl) (szT rfl) (zeroT rfl) rfl Zf7 rfl; exact Zq; intro b)) | (apply gQ; first | (apply Wq.ev rfl rfl; exact Zy)) | (apply lW; first | apply W.seq | ((show W _ _ _ _ _ _ (.inl (.region 16 _ true) :: _) _ _); refine W.regionM [] [⟨b3, true, row (tiC t) 42⟩] [⟨b3, true, row (tiC t) 42⟩] mixed ?_) | apply W.region | apply W.block | apply W.blk | apply W.skip | (refine Zbc ?_) | (refine Zv ?_ ?_ <;> (intro h; try exact Za)) | (refine Zx ?_; intro w hs)) | ((show Wm _ _ _ _ _ _ _ _ _ _ _ _ _ _ _ _); first | ((refine Zgg ?_)) | (refine Zgj ?_) | (refine Zgm ?_) | (refine Zhz ?_) | (refine Zjq ?_) | (refine Zjc ?_) | ((fail_if_success (refine Zba ?_)); (refine Zgd ?_ ?_ <;> (intro h; try exact Za))) | ((fail_if_success (refine Zba ?_)); (refine Zgc ?_ ?_ <;> (intro h; try exact Za))) | apply Wm.next) | apply AllO.nil | apply AllO.cons | (refine Or.inl Zj) | ((show _ ∨ Wl _ _ _ _ _ _ _ _ _ _); apply Or.inr) | (refine Zgl ?_))
    all_goals first | (exact GivesS.ofC hst1 hs (.mk bn 17 [] t.t 0 t.a none ts) ⟨by rw [tnOk]; exact ⟨hown, hoks⟩, by rw [tnP, hps]; rfl⟩ rfl Zdt) | (exact GivesS.ofC hst1 hs (.mk bn 17 [] t.t 0 t.a (some (kb, cap, cur)) ts) ⟨by rw [tnOk]; exact ⟨hown, hoks⟩, by rw [tnP, hps]; rfl⟩ rfl Zdt) | contradiction
   ·(refine Zby ?_; simp only [argL])
    repeat' (first | (apply gL; first | (apply Wl.ev rfl rfl; exact Zy) | (refine Zey ?_; refine wl_alloc rfl rfl (zeroT rfl) ?_; intro b3) | (refine Zf6 ?_) | (refine lC 7 47 ?_; first | (refine Zie ?_; intro q hq; clear hq q) | (refine Zig ?_; (first | refine bad_end ?_ | refine bad_endM ?_); intro w hs)) | (refine lC 31 50 ?_; refine wl_call0 rfl rfl has50 rfl Zh9 ?_) | (refine lC 40 50 ?_; refine wl_call0 rfl rfl has50 rfl Zir ?_) | (refine lC 52 50 ?_; refine wl_call0 rfl rfl has50 rfl Zh9 ?_) | (refine lD 49 ?_; refine wl_call0 rfl rfl has49 rfl Zei ?_) | (refine lD 45 ?_; refine wl_call0 rfl rfl has45 rfl Zjg ?_) | (refine lC 67 73 ?_; first | (refine Zka ?_; rintro ⟨ts, (_ | ⟨kb, cap, cur⟩)⟩ ⟨hoks, hown, hps⟩) | (refine Zkf ?_; (first | refine bad_end ?_ | refine bad_endM ?_); intro w hs)) | (refine lC 35 72 ?_; first | (refine Zh1 ?_; intro q hq; clear hq q) | (refine Zh2 ?_; (first | refine bad_end ?_ | refine bad_endM ?_); intro w hs)) | (refine lC 60 72 ?_; first | (refine Zh1 ?_; intro q hq; clear hq q) | (refine Zh2 ?_; (first | refine bad_end ?_ | refine bad_endM ?_); intro w hs)) | (refine lC _ 71 ?_; refine wl_callS rfl rfl has71 rfl Zbr ?_; intro bn hq; clear hq) | apply Wl.nil | (apply wl_buildSlice rfl rfl (slT rfl) (szT rfl) (zeroT rfl) rfl Zf7 rfl; exact Zq; intro b)) | (apply gQ; first | (apply Wq.ev rfl rfl; exact Zy)) | (apply lW; first | apply W.seq | ((show W _ _ _ _ _ _ (.inl (.region 16 _ true) :: _) _ _); refine W.regionM [] [⟨b3, true, row (tiC t) 42⟩] [⟨b3, true, row (tiC t) 42⟩] mixed ?_) | apply W.region | apply W.block | apply W.blk | apply W.skip | (refine Zbc ?_) | (refine Zv ?_ ?_ <;> (intro h; try exact Za)) | (refine Zx ?_; intro w hs)) | ((show Wm _ _ _ _ _ _ _ _ _ _ _ _ _ _ _ _); first | ((refine Zgg ?_)) | (refine Zgj ?_) | (refine Zgm ?_) | (refine Zhz ?_) | (refine Zjq ?_) | (refine Zjc ?_) | ((fail_if_success (refine Zba ?_)); (refine Zgd ?_ ?_ <;> (intro h; try exact Za))) | ((fail_if_success (refine Zba ?_)); (refine Zgc ?_ ?_ <;> (intro h; try exact Za))) | apply Wm.next) | apply AllO.nil | apply AllO.cons | (refine Or.inl Zj) | ((show _ ∨ Wl _ _ _ _ _ _ _ _ _ _); apply Or.inr) | (refine Zgl ?_))
    all_goals first | (exact GivesS.ofC hst1 hs (.mk bn 17 [] t.t 0 t.a none ts) ⟨by rw [tnOk]; exact ⟨hown, hoks⟩, by rw [tnP, hps]; rfl⟩ rfl Zdt) | (exact GivesS.ofC hst1 hs (.mk bn 17 [] t.t 0 t.a (some (kb, cap, cur)) ts) ⟨by rw [tnOk]; exact ⟨hown, hoks⟩, by rw [tnP, hps]; rfl⟩ rfl Zdt) | contradiction
 ·have c2' := okT_head c2
  cases cn : namedT t with
  | true =>
   rw [if_pos ⟨cn, by rw [c2']; simp⟩] at e
   cases e
   rw [← a1.len] at p2
   (refine Zby ?_; simp only [argL])
   repeat' (first | (apply gL; first | (apply Wl.ev rfl rfl; exact Zev) | (refine Zey ?_; refine wl_alloc rfl rfl (zeroT rfl) ?_; intro b3) | (refine Zf6 ?_) | (refine lC 7 47 ?_; first | (refine Zie ?_; intro q hq; clear hq q) | (refine Zig ?_; (first | refine bad_end ?_ | refine bad_endM ?_); intro w hs)) | (refine lC 31 50 ?_; refine wl_call0 rfl rfl has50 rfl Zh9 ?_) | (refine lC 40 50 ?_; refine wl_call0 rfl rfl has50 rfl Zir ?_) | (refine lC 52 50 ?_; refine wl_call0 rfl rfl has50 rfl Zh9 ?_) | (refine lD 49 ?_; refine wl_call0 rfl rfl has49 rfl Zei ?_) | (refine lD 45 ?_; refine wl_call0 rfl rfl has45 rfl Zjg ?_) | (refine lC _ 71 ?_; refine wl_callS rfl rfl has71 rfl Zbr ?_; intro bn hq; clear hq) | apply Wl.nil | (apply wl_buildSlice rfl rfl (slT rfl) (szT rfl) (zeroT rfl) rfl Zf7 rfl; exact Zq; intro b)) | (apply gQ; first | (apply Wq.ev rfl rfl; exact Zev)) | (apply lW; first | apply W.seq | apply W.region | apply W.block | (refine Zbh ?_) | (refine Zbc ?_) | (refine Zv ?_ ?_ <;> (intro h; try exact Za)) | (refine Zx ?_; intro w hs)))
   all_goals first | exact node_leaf hst1 hs Zn | contradiction
  | false =>
   rw [if_neg (fun h => by rw [cn] at h; cases h.1), tkP_bad c2] at e
   cases e
   rw [← a1.len] at p2
   (refine Zby ?_; simp only [argL])
   repeat' (first | (apply gL; first | (apply Wl.ev rfl rfl; exact Zev) | (refine Zey ?_; refine wl_alloc rfl rfl (zeroT rfl) ?_; intro b3) | (refine Zf6 ?_) | (refine lC 7 47 ?_; first | (refine Zie ?_; intro q hq; clear hq q) | (refine Zig ?_; (first | refine bad_end ?_ | refine bad_endM ?_); intro w hs)) | (refine lC 31 50 ?_; refine wl_call0 rfl rfl has50 rfl Zh9 ?_) | (refine lC 40 50 ?_; refine wl_call0 rfl rfl has50 rfl Zir ?_) | (refine lC 52 50 ?_; refine wl_call0 rfl rfl has50 rfl Zh9 ?_) | (refine lD 49 ?_; refine wl_call0 rfl rfl has49 rfl Zei ?_) | (refine lC 35 72 ?_; first | (refine Zh1 ?_; intro q hq; clear hq q) | (refine Zh2 ?_; (first | refine bad_end ?_ | refine bad_endM ?_); intro w hs)) | (refine lC 60 72 ?_; first | (refine Zh1 ?_; intro q hq; clear hq q) | (refine Zh2 ?_; (first | refine bad_end ?_ | refine bad_endM ?_); intro w hs)) | apply Wl.nil | (refine Zbb ?_) | (apply wl_buildSlice rfl rfl (slT rfl) (szT rfl) (zeroT rfl) rfl Zf7 rfl; exact Zq; intro b)) | (apply gQ; first | (apply Wq.ev rfl rfl; exact Zev)) | (apply lW; first | apply W.seq | apply W.region | apply W.block | apply W.blk | apply W.skip | (refine Zbc ?_) | (refine Zv ?_ ?_ <;> (intro h; try exact Za))))
   all_goals first | exact BadS.ofC hst1 hs Zn | contradiction
end Go.Proofs.YtbinaeemcidicaaGreat
