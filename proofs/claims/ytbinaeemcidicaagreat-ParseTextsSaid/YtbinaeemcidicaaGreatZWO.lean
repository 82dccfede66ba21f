/- Walks: the document's reader: a for. No condition. -/
import Derived.Test.YtbinaeemcidicaaGreatZWX
set_option maxRecDepth 100000
set_option maxHeartbeats 16000000
namespace Go.Proofs.YtbinaeemcidicaaGreat
open Go.PB Go.RowKit
attribute [local irreducible] Go.Calls
theorem rn_nil : rnsH [] = [] := by rw [rnsH]
theorem rloop_ok {f : Nat} (_ : f ≤ 1000000000) (ihb : RefC f .bnd 124 []) (ihs : RefC f .stmt 110 []) : RefG (fun s => if (!s.2 && isA [[102, 111, 114]] (hdR s)) = true then rF (f + 1) .loop s else none) 117 [] := by
 intro M w0 w H K TR r lv L ⟨l0, b0⟩ s' ps hst hu hT hm hsf e
 try dsimp only at e
 by_cases hc : (!b0 && isA [[102, 111, 114]] (hdR (l0, b0))) = true
 case neg =>
  rw [if_neg hc] at e
  cases e
 rw [if_pos hc] at e
 simp only [Bool.and_eq_true, Bool.not_eq_true'] at hc
 obtain ⟨rfl, hc⟩ := hc
 have hne1 := isA_ne hc
 (obtain ⟨A, p1, p2⟩ := hu.front; have hTA : ∀ e ∈ TR, e ∈ A := fun e he => mem_front p1 (hm e he) (hT.2.1 e he); have hst1 := hst.perm p1; have hlim := hT.2.2.1)
 rw [rF] at e
 unfold rtk at e
 obtain ⟨t, ht⟩ : ∃ t, hdR (l0, false) = t := ⟨_, rfl⟩
 rw [hc, ht] at e
 obtain ⟨s1, h1⟩ : ∃ s1, tkR true (l0, false) = s1 := ⟨_, rfl⟩
 rw [h1] at e
 have f1 := tk_suf h1 hsf
 try dsimp only at e
 obtain ⟨s2, h2⟩ : ∃ x, tkR (isA [[40]] (hdR s1)) s1 = x := ⟨_, rfl⟩
 rw [h2] at e
 have f2 := tk_suf h2 f1
 try dsimp only at e
 obtain ⟨s3, h3⟩ : ∃ x, tkR (isA [[105, 110, 116]] (hdR s2)) s2 = x := ⟨_, rfl⟩
 rw [h3] at e
 have f3 := tk_suf h3 f2
 obtain ⟨nm, hnm⟩ : ∃ x, hdR s3 = x := ⟨_, rfl⟩
 try dsimp only at e
 obtain ⟨s4, h4⟩ : ∃ x, tkR (namedT (hdR s3)) s3 = x := ⟨_, rfl⟩
 rw [h4] at e
 rw [hnm] at e
 have f4 := tk_suf h4 f3
 try dsimp only at e
 obtain ⟨s5, h5⟩ : ∃ x, tkR (isA [[61]] (hdR s4)) s4 = x := ⟨_, rfl⟩
 rw [h5] at e
 have f5 := tk_suf h5 f4
 try dsimp only at e
 obtain ⟨ps6, s6, e6, e⟩ := bdR_inv e
 have f6 := r_suf e6 f5
 try dsimp only at e
 obtain ⟨s7, h7⟩ : ∃ x, tkR (isA [[59]] (hdR s6)) s6 = x := ⟨_, rfl⟩
 rw [h7] at e
 have f7 := tk_suf h7 f6
 obtain ⟨t7, ht7⟩ : ∃ x, hdR s7 = x := ⟨_, rfl⟩
 try dsimp only at e
 obtain ⟨s8, h8⟩ : ∃ x, tkR (namedT (hdR s7) && decide ((hdR s7).t = nm.t)) s7 = x := ⟨_, rfl⟩
 rw [h8] at e
 have f8 := tk_suf h8 f7
 have h8t : namedT (hdR s7) = true → tkR (decide (t7.t = nm.t)) s7 = s8 := fun h => by rw [← h8, h, Bool.true_and, ht7]
 have h8f : namedT (hdR s7) = false → tkR false s7 = s8 := fun h => by rw [← h8, h, Bool.false_and]
 try dsimp only at e
 obtain ⟨s9, h9⟩ : ∃ x, tkR (isA [[60]] (hdR s8)) s8 = x := ⟨_, rfl⟩
 rw [h9] at e
 have f9 := tk_suf h9 f8
 try dsimp only at e
 obtain ⟨ps10, s10, e10, e⟩ := bdR_inv e
 have f10 := r_suf e10 f9
 try dsimp only at e
 obtain ⟨s11, h11⟩ : ∃ x, tkR (isA [[59]] (hdR s10)) s10 = x := ⟨_, rfl⟩
 rw [h11] at e
 have f11 := tk_suf h11 f10
 obtain ⟨t11, ht11⟩ : ∃ x, hdR s11 = x := ⟨_, rfl⟩
 try dsimp only at e
 obtain ⟨s12, h12⟩ : ∃ x, tkR (namedT (hdR s11) && decide ((hdR s11).t = nm.t)) s11 = x := ⟨_, rfl⟩
 rw [h12] at e
 have f12 := tk_suf h12 f11
 have h12t : namedT (hdR s11) = true → tkR (decide (t11.t = nm.t)) s11 = s12 := fun h => by rw [← h12, h, Bool.true_and, ht11]
 have h12f : namedT (hdR s11) = false → tkR false s11 = s12 := fun h => by rw [← h12, h, Bool.false_and]
 try dsimp only at e
 obtain ⟨s13, h13⟩ : ∃ x, tkR (isA [[43, 43]] (hdR s12)) s12 = x := ⟨_, rfl⟩
 rw [h13] at e
 have f13 := tk_suf h13 f12
 try dsimp only at e
 obtain ⟨s14, h14⟩ : ∃ x, tkR (isA [[41]] (hdR s13)) s13 = x := ⟨_, rfl⟩
 rw [h14] at e
 have f14 := tk_suf h14 f13
 try dsimp only at e
 obtain ⟨ps15, s15, e15, e⟩ := bdR_inv e
 cases e
 clear hc
 (refine calls_of_W (vs := [ptr r]) Tryz.func117 rfl Tryz.ntmps117 (Nat.le_of_ble_eq_true rfl) hst1.fromHere ?_; simp only [argL])
 repeat' (first | (apply gL; first | (apply Wl.ev rfl rfl; exact Zev) | (refine Zge ?_; try simp only [List.set]) | (refine lC 5 63 ?_; refine wl_callS rfl rfl has63 rfl (fun w hs => rtakeV hs Ze h1 ht hT Zc Zf5 Zi) ?_; intro q hq; clear hq q) | (refine lC 7 40 ?_; refine wl_callS rfl rfl has40 rfl Zbg ?_; intro pn hq; clear hq) | (refine lC 9 97 ?_; refine wl_callS rfl rfl has97 rfl (fun w hs => rsign hs Ze h2 hT Zc Zf5) ?_; intro q hq; clear hq q) | (refine lC 11 97 ?_; refine wl_callS rfl rfl has97 rfl Zjh ?_; intro q hq; clear hq q) | (refine lC 15 65 ?_; refine wl_call0 rfl rfl has65 rfl Zh4 ?_) | (refine lC 16 63 ?_; refine wl_callS rfl rfl has63 rfl (fun w hs => rtakeV hs Ze h4 hnm hT Zc Zf5 Zi) ?_; intro q hq; clear hq q) | (refine lC 22 97 ?_; refine wl_callS rfl rfl has97 rfl Zlh ?_; intro q hq; clear hq q) | (refine lC 29 124 ?_; refine wl_callS rfl rfl has124 rfl (fun w hs => rcall ihb hs Zk e6 hT Zc Zf5) ?_; rintro n1 ⟨hok1, hp1⟩) | ((show Wl _ _ _ _ _ _ _ (⟨some 30, .buildSlice _ _ _, _, _, _, _⟩ :: _) _ _); apply wl_buildSlice rfl rfl (slT rfl) (szT rfl) (zeroT rfl) rfl Zf7 rfl; exact Zq; intro q1) | ((show Wl _ _ _ _ _ _ _ (⟨some 31, .call ⟨.builtin .append, _, _⟩, _, _, _, _⟩ :: _) _ _); refine Wl.reC (H' := ⟨q1, true, row [ptr n1.b] 55⟩ :: (⟨pn, true, rnO 8 [] nm.t 0 t.a (.slice none 0 0)⟩ : Ent) :: ⟨r, true, rdS lv L s6⟩ :: ((A ++ rnsH (([] : List Tn) ++ [n1])) ++ ownH 55 none)) Zcn ?_; refine wl_append_own (m := 0) (k := 1) (o := none) (xs := []) (news := [ptr n1.b]) rfl rfl (slT rfl) (szT rfl) (byT rfl) (zeroT rfl) rfl rfl rfl ⟨rfl, rfl⟩ Zd rfl (fun j v h => by simpa using h) Zbn Zga Zbj Zga Zt ?_; intro o1 hown1) | (refine lC 35 97 ?_; refine wl_callS rfl rfl has97 rfl Zjp ?_; intro q hq; clear hq q) | (refine lC 50 63 ?_; refine wl_callS rfl rfl has63 rfl (fun w hs => rtake hs Ze (h8t Zf5) hT Zc Zf5 Zej) ?_; intro q hq; clear hq q) | (refine lC 50 63 ?_; refine wl_callS rfl rfl has63 rfl (fun w hs => rtake hs Ze (h8f Zf5) hT Zc Zf5 Zej) ?_; intro q hq; clear hq q) | (refine lC 52 97 ?_; refine wl_callS rfl rfl has97 rfl Zlg ?_; intro q hq; clear hq q) | (refine lC 59 124 ?_; refine wl_callS rfl rfl has124 rfl (fun w hs => rcall ihb hs Zk e10 hT Zc Zf5) ?_; rintro n2 ⟨hok2, hp2⟩) | ((show Wl _ _ _ _ _ _ _ (⟨some 60, .buildSlice _ _ _, _, _, _, _⟩ :: _) _ _); apply wl_buildSlice rfl rfl (slT rfl) (szT rfl) (zeroT rfl) rfl Zf7 rfl; exact Zq; intro q2) | ((show Wl _ _ _ _ _ _ _ (⟨some 61, .call ⟨.builtin .append, _, _⟩, _, _, _, _⟩ :: _) _ _); refine Wl.reC (H' := ⟨q2, true, row [ptr n2.b] 55⟩ :: (⟨pn, true, rnO 8 [] nm.t 0 t.a (ownV (0 + 1) o1)⟩ : Ent) :: ⟨r, true, rdS lv L s10⟩ :: ((A ++ rnsH ((([] : List Tn) ++ [n1]) ++ [n2])) ++ ownH 55 o1)) Zcn ?_; refine wl_append_own (m := (0 + 1)) (k := 1) (o := o1) (xs := ([] ++ [ptr n1.b])) (news := [ptr n2.b]) rfl rfl (slT rfl) (szT rfl) (byT rfl) (zeroT rfl) rfl rfl rfl hown1 Zd rfl (fun j v h => by simpa using h) Zbn Zga Zbj Zga Zt ?_; intro o2 hown2) | (refine lC 65 97 ?_; refine wl_callS rfl rfl has97 rfl (fun w hs => rsign hs Ze h11 hT Zc Zf5) ?_; intro q hq; clear hq q) | (refine lC 80 63 ?_; refine wl_callS rfl rfl has63 rfl (fun w hs => rtake hs Ze (h12t Zf5) hT Zc Zf5 Zej) ?_; intro q hq; clear hq q) | (refine lC 80 63 ?_; refine wl_callS rfl rfl has63 rfl (fun w hs => rtake hs Ze (h12f Zf5) hT Zc Zf5 Zej) ?_; intro q hq; clear hq q) | (refine lC 82 97 ?_; refine wl_callS rfl rfl has97 rfl (fun w hs => rsign hs Ze h13 hT Zc Zf5) ?_; intro q hq; clear hq q) | (refine lC 84 97 ?_; refine wl_callS rfl rfl has97 rfl (fun w hs => rsign hs Ze h14 hT Zc Zf5) ?_; intro q hq; clear hq q) | (refine lC 91 110 ?_; refine wl_callS rfl rfl has110 rfl (fun w hs => rcall ihs hs Zk e15 hT Zc Zf5) ?_; rintro n3 ⟨hok3, hp3⟩) | ((show Wl _ _ _ _ _ _ _ (⟨some 92, .buildSlice _ _ _, _, _, _, _⟩ :: _) _ _); apply wl_buildSlice rfl rfl (slT rfl) (szT rfl) (zeroT rfl) rfl Zf7 rfl; exact Zq; intro q3) | ((show Wl _ _ _ _ _ _ _ (⟨some 93, .call ⟨.builtin .append, _, _⟩, _, _, _, _⟩ :: _) _ _); refine Wl.reC (H' := ⟨q3, true, row [ptr n3.b] 55⟩ :: (⟨pn, true, rnO 8 [] nm.t 0 t.a (ownV (0 + 1 + 1) o2)⟩ : Ent) :: ⟨r, true, rdS lv L s'⟩ :: ((A ++ rnsH (((([] : List Tn) ++ [n1]) ++ [n2]) ++ [n3])) ++ ownH 55 o2)) Zcn ?_; refine wl_append_own (m := (0 + 1 + 1)) (k := 1) (o := o2) (xs := (([] ++ [ptr n1.b]) ++ [ptr n2.b])) (news := [ptr n3.b]) rfl rfl (slT rfl) (szT rfl) (byT rfl) (zeroT rfl) rfl rfl rfl hown2 Zd rfl (fun j v h => by simpa using h) Zbn Zga Zbj Zga Zt ?_; intro o3 hown3) | apply Wl.nil | (refine Zf9 ?_; try simp only [List.set])) | (apply gQ; first | (apply Wq.ev rfl rfl; exact Zev) | ((show Wq _ _ (Qt _ _ _ _) _ _ _ _ [] _ _); apply Wq.tail) | (refine qC 38 65 ?_; refine Wq.call0 rfl rfl has65 rfl Zh4 ?_) | (refine qC 41 61 ?_; refine Wq.call0 rfl rfl has61 rfl (fun w hs => rtok0V hs Zd hT Zc Zf5 ht7) ?_) | (refine qC 68 65 ?_; refine Wq.call0 rfl rfl has65 rfl Zh4 ?_) | (refine qC 71 61 ?_; refine Wq.call0 rfl rfl has61 rfl (fun w hs => rtok0V hs Zd hT Zc Zf5 ht11) ?_) | (refine Zb4 ?_) | ((fail_if_success (apply Wq.chk rfl)); refine Wq.splitB rfl rfl ?_ ?_ <;> (intro h; try exact Zg))) | (apply lW; first | apply W.seq | ((show W _ _ _ _ _ _ (.inl (.region 6 _ true) :: _) _ _); refine W.regionM [11] [] [(⟨pn, true, rnO 8 [] nm.t 0 t.a (.slice none 0 0)⟩ : Ent)] mixed ?_) | ((show W _ _ _ _ _ _ (.inl (.region 8 _ true) :: .inl _ :: _) _ _); refine W.join (X := Unit) (fun _ => [(0, ptr r), (3, ptr pn)]) (fun _ => (⟨pn, true, rnO 8 [] nm.t 0 t.a (ownV (0 + 1) o1)⟩ : Ent) :: ⟨r, true, rdS lv L s8⟩ :: ((A ++ rnsH (([] : List Tn) ++ [n1])) ++ ownH 55 o1)) (fun _ => True) ?_ (fun _ _ => ?_)) | ((show W _ _ _ _ _ _ (.inl (.region 8 _ true) :: _) _ _); refine W.regionT 14 mixed Zl rfl rfl ?_) | ((show W _ _ _ _ _ _ (.inr (.inr (.inl _)) :: _) _ _); refine W.reC (H' := (⟨pn, true, rnO 8 [] nm.t 0 t.a (ownV (0 + 1) o1)⟩ : Ent) :: ⟨r, true, rdS lv L s8⟩ :: ((A ++ rnsH (([] : List Tn) ++ [n1])) ++ ownH 55 o1)) Zcn ?_; exact W.meet () trivial Zm (List.Sublist.refl _)) | ((show W _ _ _ _ _ _ (.inl (.region 10 _ true) :: _) _ _); refine W.regionM [11] [] [(⟨pn, true, rnO 8 [] nm.t 0 t.a (ownV (0 + 1) o1)⟩ : Ent)] mixed ?_) | ((show W _ _ _ _ _ _ (.inl (.region 12 _ true) :: .inl _ :: _) _ _); refine W.join (X := Unit) (fun _ => [(0, ptr r), (3, ptr pn)]) (fun _ => (⟨pn, true, rnO 8 [] nm.t 0 t.a (ownV (0 + 1 + 1) o2)⟩ : Ent) :: ⟨r, true, rdS lv L s12⟩ :: ((A ++ rnsH ((([] : List Tn) ++ [n1]) ++ [n2])) ++ ownH 55 o2)) (fun _ => True) ?_ (fun _ _ => ?_)) | ((show W _ _ _ _ _ _ (.inl (.region 12 _ true) :: _) _ _); refine W.regionT 14 mixed Zl rfl rfl ?_) | ((show W _ _ _ _ _ _ (.inr (.inr (.inl _)) :: _) _ _); refine W.reC (H' := (⟨pn, true, rnO 8 [] nm.t 0 t.a (ownV (0 + 1 + 1) o2)⟩ : Ent) :: ⟨r, true, rdS lv L s12⟩ :: ((A ++ rnsH ((([] : List Tn) ++ [n1]) ++ [n2])) ++ ownH 55 o2)) Zcn ?_; exact W.meet () trivial Zm (List.Sublist.refl _)) | ((show W _ _ _ _ _ _ (.inl (.region 15 _ true) :: _) _ _); refine W.regionM [11] [] [(⟨pn, true, rnO 8 [] nm.t 0 t.a (ownV (0 + 1 + 1) o2)⟩ : Ent)] mixed ?_) | apply W.region | (refine Zx ?_; intro w hs)) | ((show Wm _ _ _ _ _ _ _ _ _ _ _ _ _ _ _ _); first | ((refine Zgg ?_)) | (refine Zgj ?_) | (refine Zgm ?_) | (refine Zhz ?_) | (refine Zh0 ?_) | (refine Zhy ?_) | ((fail_if_success (refine Zba ?_)); (refine Zgd ?_ ?_ <;> (intro h; try exact Za))) | ((fail_if_success (refine Zba ?_)); (refine Zgc ?_ ?_ <;> (intro h; try exact Za))) | apply Wm.next) | apply AllO.nil | apply AllO.cons | (refine Or.inl Zj) | ((show _ ∨ Wl _ _ _ _ _ _ _ _ _ _); apply Or.inr) | (refine Zgl ?_))
 all_goals first | ((try simp only [row_rn] at hs); exact rnode_own hst1 hs (((([] : List Tn) ++ [n1]) ++ [n2]) ++ [n3]) o3 _ (tnsOk_app (tnsOk_app (tnsOk1 hok1) (tnsOk1 hok2)) (tnsOk1 hok3)) (by simp only [List.nil_append, List.cons_append, tnsP, hp1, hp2, hp3]) hown3 (by intro e; rw [(p2 _).count_eq]; rw [len_snocR ((([] : List Tn) ++ [n1]) ++ [n2]) n3, len_snocR (([] : List Tn) ++ [n1]) n2, len_snocR ([] : List Tn) n1, List.length_nil]; simp only [rnsH_app, rnsH1, List.count_append, cnt_cons, List.count_nil, rn_nil]; omega)) | contradiction | exact Zz
end Go.Proofs.YtbinaeemcidicaaGreat
