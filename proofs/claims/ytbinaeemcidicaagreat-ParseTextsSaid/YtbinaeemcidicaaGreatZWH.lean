/- Walks: the document's reader: an expression, one that is no assignment. No condition. -/
import Derived.Test.YtbinaeemcidicaaGreatZWD
set_option maxRecDepth 100000
set_option maxHeartbeats 16000000
namespace Go.Proofs.YtbinaeemcidicaaGreat
open Go.PB Go.RowKit
attribute [local irreducible] Go.Calls
theorem rexpr_step {f : Nat} (ihc : RefC f .cond 111 []) (ihe : RefC f .expr 99 []) : RefC (f + 1) .expr 99 [] := by
 intro M w0 w H K TR r lv L s s' ps hst hu hT hm hsf e
 (obtain ⟨A, p1, p2⟩ := hu.front; have hTA : ∀ e ∈ TR, e ∈ A := fun e he => mem_front p1 (hm e he) (hT.2.1 e he); have hst1 := hst.perm p1; have hlim := hT.2.2.1)
 rw [rF] at e
 obtain ⟨ps1, ⟨l1, b1⟩, e1, e⟩ := bdR_inv e
 have f1 := r_suf e1 hsf
 by_cases hk : (hdP ps1).kd = 19 ∨ (hdP ps1).kd = 18
 ·rw [if_pos hk] at e
  unfold asgW at e
  rcases ryA_inv e with ⟨rfl, ha, e⟩ | ⟨rfl, e⟩ | ⟨rfl, ha, e⟩
  ·obtain ⟨t, ht⟩ : ∃ t, hdR (l1, false) = t := ⟨_, rfl⟩
   obtain ⟨s2, h2⟩ : ∃ s2, tkR true (l1, false) = s2 := ⟨_, rfl⟩
   have f2 := tk_suf h2 f1
   rw [h2, ht] at e
   obtain ⟨qs, s3, e3, e⟩ := bdR_inv e
   cases e
   (refine Zee ?_; simp only [argL])
   repeat' (first | (apply gL; first | (apply Wl.ev rfl rfl; exact Zb2) | (refine lA 5 ?_; refine wl_alloc rfl rfl (zeroT rfl) ?_; intro b5) | (refine Zf6 ?_) | (refine lC 7 111 ?_; refine wl_callS rfl rfl has111 rfl Zl2 ?_; rintro ⟨pb, kd, ty, tx, nm, pl, ow, ks⟩ ⟨hok, hp⟩; have hkd := tn_kd hp) | (refine lC 41 99 ?_; refine wl_callS rfl rfl has99 rfl Zmm ?_; rintro t2 ⟨hok2, hp2⟩) | (refine lC 33 112 ?_; refine wl_call0 rfl rfl has112 rfl Zmi ?_) | (refine lC 36 63 ?_; refine wl_callS rfl rfl has63 rfl Zif ?_; intro q hq; clear hq q) | (refine lC 43 40 ?_; refine wl_callS rfl rfl has40 rfl Zbg ?_; intro bn hq; clear hq) | apply Wl.nil | (refine Zbb ?_) | (refine Zf9 ?_; try simp only [List.set]) | (apply wl_buildSlice rfl rfl (slT rfl) (szT rfl) (zeroT rfl) rfl Zf7 rfl; exact Zq; intro b) | ((fail_if_success (apply Wl.chk rfl)); refine Wl.split rfl rfl ?_ ?_ <;> (intro h; try exact Zh))) | (apply gQ; first | (apply Wq.ev rfl rfl; exact Zb2)) | (apply lW; first | apply W.seq | ((show W _ _ _ _ _ _ (.inl (.region 5 _ true) :: _) _ _); refine W.regionM [] [⟨b5, true, row (tiC t) 42⟩] [⟨b5, true, row (tiC t) 42⟩] mixed ?_) | apply W.region | (refine Zbh ?_) | (refine Zx ?_; intro w hs)) | ((show Wm _ _ _ _ _ _ _ _ _ _ _ _ _ _ _ _); first | ((refine Zgg ?_)) | (refine Zgj ?_) | (refine Zgm ?_) | (refine Zhz ?_) | (refine Wm.take1 Zl rfl Zl Zj Zf7 rfl rfl Zb2 Zb Zb ?_) | (refine Wm.take0 Zl rfl Zl Zj Zj Zf7 Zf7 rfl rfl Zb2 Zb Zb ?_) | ((fail_if_success (refine Zba ?_)); (refine Zgd ?_ ?_ <;> (intro h; try exact Zh))) | ((fail_if_success (refine Zba ?_)); (refine Zgc ?_ ?_ <;> (intro h; try exact Zh))) | apply Wm.next) | apply AllO.nil | apply AllO.cons | (refine Or.inl Zj) | ((show _ ∨ Wl _ _ _ _ _ _ _ _ _ _); apply Or.inr) | (refine Zgl ?_))
   all_goals first | (simp only [row_rn] at hs; exact rnode_new (kb := b) (n := 2) hst1 hs [.mk pb kd ty tx nm pl ow ks, t2] _ (by simp only [tnsOk]; exact ⟨hok, hok2, trivial⟩) (by simp only [tnsP, hp, hp2]) rfl (show 2 ≤ 1000 by decide) Zco) | exact Zz
  ·cases e
   (refine Zee ?_; simp only [argL])
   repeat' (first | (apply gL; first | (apply Wl.ev rfl rfl; exact Zb2) | (refine lC 7 111 ?_; refine wl_callS rfl rfl has111 rfl Zl2 ?_; rintro ⟨pb, kd, ty, tx, nm, pl, ow, ks⟩ ⟨hok, hp⟩; have hkd := tn_kd hp) | apply Wl.nil | (refine Zbb ?_) | ((fail_if_success (apply Wl.chk rfl)); refine Wl.split rfl rfl ?_ ?_ <;> (intro h; try exact Zh))) | (apply gQ; first | (apply Wq.ev rfl rfl; exact Zb2)) | (apply lW; first | apply W.seq | apply W.region | apply W.skip | (refine Zbc ?_) | (refine Zx ?_; intro w hs)))
   all_goals first | exact GivesS.ofC hst1 hs (.mk pb kd ty tx nm pl ow ks) ⟨hok, hp⟩ rfl Zn | exact Zz
  ·cases e
   (refine Zee ?_; simp only [argL])
   repeat' (first | (apply gL; first | (apply Wl.ev rfl rfl; exact Zb2) | (refine lC 7 111 ?_; refine wl_callS rfl rfl has111 rfl Zl2 ?_; rintro ⟨pb, kd, ty, tx, nm, pl, ow, ks⟩ ⟨hok, hp⟩; have hkd := tn_kd hp) | (refine lC 33 112 ?_; refine wl_call0 rfl rfl has112 rfl Zmi ?_) | apply Wl.nil | (refine Zbb ?_) | (apply wl_buildSlice rfl rfl (slT rfl) (szT rfl) (zeroT rfl) rfl Zf7 rfl; exact Zq; intro b) | ((fail_if_success (apply Wl.chk rfl)); refine Wl.split rfl rfl ?_ ?_ <;> (intro h; try exact Zh))) | (apply gQ; first | (apply Wq.ev rfl rfl; exact Zb2)) | (apply lW; first | apply W.seq | apply W.region | apply W.skip | (refine Zbc ?_) | (refine Zx ?_; intro w hs)))
   all_goals first | exact GivesS.ofC hst1 hs (.mk pb kd ty tx nm pl ow ks) ⟨hok, hp⟩ rfl Zn | exact Zz
 ·rw [if_neg hk] at e
  cases e
  cases b1
  all_goals
   ((refine Zee ?_; simp only [argL])
    repeat' (first | (apply gL; first | (apply Wl.ev rfl rfl; exact Zb2) | (refine lC 7 111 ?_; refine wl_callS rfl rfl has111 rfl Zl2 ?_; rintro ⟨pb, kd, ty, tx, nm, pl, ow, ks⟩ ⟨hok, hp⟩; have hkd := tn_kd hp) | apply Wl.nil | (refine Zbb ?_) | ((fail_if_success (apply Wl.chk rfl)); refine Wl.split rfl rfl ?_ ?_ <;> (intro h; try exact Zh))) | (apply gQ; first | (apply Wq.ev rfl rfl; exact Zb2)) | (apply lW; first | apply W.seq | apply W.region | apply W.skip | (refine Zbc ?_) | (refine Zx ?_; intro w hs)))
    all_goals first | exact GivesS.ofC hst1 hs (.mk pb kd ty tx nm pl ow ks) ⟨hok, hp⟩ rfl Zn | exact Zz | fail)
end Go.Proofs.YtbinaeemcidicaaGreat
namespace Go.Proofs.YtbinaeemcidicaaGreat
open Go.PB Go.RowKit
attribute [local irreducible] Go.Calls
theorem rcond_step {f : Nat} (ihb : RefC f (.bin 0) 118 [.int .i64 0]) (ihe : RefC f .expr 99 []) (ihc : RefC f .cond 111 []) : RefC (f + 1) .cond 111 [] := by
 intro M w0 w H K TR r lv L s s' ps hst hu hT hm hsf e
 (obtain ⟨A, p1, p2⟩ := hu.front; have hTA : ∀ e ∈ TR, e ∈ A := fun e he => mem_front p1 (hm e he) (hT.2.1 e he); have hst1 := hst.perm p1; have hlim := hT.2.2.1)
 rw [rF] at e
 obtain ⟨ps1, ⟨l1, b1⟩, e1, e⟩ := bdR_inv e
 have f1 := r_suf e1 hsf
 rcases ryA_inv e with ⟨rfl, ha, e⟩ | ⟨rfl, e⟩ | ⟨rfl, ha, e⟩
 ·obtain ⟨t, ht⟩ : ∃ t, hdR (l1, false) = t := ⟨_, rfl⟩
  obtain ⟨s2, h2⟩ : ∃ s2, tkR true (l1, false) = s2 := ⟨_, rfl⟩
  have f2 := tk_suf h2 f1
  rw [h2, ht] at e
  obtain ⟨qs, s3, e3, e⟩ := bdR_inv e
  have f3 := r_suf e3 f2
  unfold rtk at e
  obtain ⟨s4, h4⟩ : ∃ s4, tkR (isA [[58]] (hdR s3)) s3 = s4 := ⟨_, rfl⟩
  have f4 := tk_suf h4 f3
  rw [h4] at e
  obtain ⟨rs, s5, e5, e⟩ := bdR_inv e
  cases e
  (refine Ze5 ?_; simp only [argL])
  repeat' (first | (apply gL; first | (apply Wl.ev rfl rfl; exact Zev) | (refine lA 4 ?_; refine wl_alloc rfl rfl (zeroT rfl) ?_; intro b4) | (refine Zf6 ?_) | (refine lC 7 118 ?_; refine wl_callS rfl rfl has118 rfl Zl3 ?_; rintro t1 ⟨hok1, hp1⟩) | (refine lC 21 99 ?_; refine wl_callS rfl rfl has99 rfl Zmm ?_; rintro t2 ⟨hok2, hp2⟩) | (refine lC 29 111 ?_; refine wl_callS rfl rfl has111 rfl (fun w hs => rcall ihc hs Zk e5 hT Zc Zf5) ?_; rintro t3 ⟨hok3, hp3⟩) | (refine lC 16 112 ?_; refine wl_call0 rfl rfl has112 rfl (fun w hs => rany (ws := [[63]]) hs Zd Zd hT Zc Zf5 Zp rfl Zdl) ?_) | (refine lC 19 63 ?_; refine wl_callS rfl rfl has63 rfl Zif ?_; intro q hq; clear hq q) | (refine lC 23 97 ?_; refine wl_callS rfl rfl has97 rfl Zlf ?_; intro q hq; clear hq q) | (refine lC 31 40 ?_; refine wl_callS rfl rfl has40 rfl Zbg ?_; intro bn hq; clear hq) | apply Wl.nil | (apply wl_buildSlice rfl rfl (slT rfl) (szT rfl) (zeroT rfl) rfl Zf7 rfl; exact Zq; intro b)) | (apply gQ; first | (apply Wq.ev rfl rfl; exact Zev)) | (apply lW; first | apply W.seq | ((show W _ _ _ _ _ _ (.inl (.region 6 _ true) :: _) _ _); refine W.regionM [] [⟨b4, true, row (tiC t) 42⟩] [⟨b4, true, row (tiC t) 42⟩] mixed ?_) | apply W.region | (refine Zbh ?_) | (refine Zx ?_; intro w hs)) | ((show Wm _ _ _ _ _ _ _ _ _ _ _ _ _ _ _ _); first | ((refine Zgg ?_)) | (refine Zgj ?_) | (refine Zgm ?_) | (refine Zhz ?_) | (refine Zh0 ?_) | (refine Zhy ?_) | ((fail_if_success (refine Zba ?_)); (refine Zgd ?_ ?_ <;> (intro h; try exact Zh))) | ((fail_if_success (refine Zba ?_)); (refine Zgc ?_ ?_ <;> (intro h; try exact Zh))) | apply Wm.next) | apply AllO.nil | apply AllO.cons | (refine Or.inl Zj) | ((show _ ∨ Wl _ _ _ _ _ _ _ _ _ _); apply Or.inr) | (refine Zgl ?_))
  all_goals first | exact rnode_new (kb := b) (n := 3) hst1 hs [t1, t2, t3] _ Zfw (by simp only [tnsP, hp1, hp2, hp3]) rfl (show 3 ≤ 1000 by decide) Zco
 ·cases e
  (refine Ze5 ?_; simp only [argL])
  repeat' (first | (apply gL; first | (apply Wl.ev rfl rfl; exact Zev) | (refine lC 7 118 ?_; refine wl_callS rfl rfl has118 rfl Zl3 ?_; rintro t1 ⟨hok1, hp1⟩) | apply Wl.nil | (refine Zbb ?_)) | (apply gQ; first | (apply Wq.ev rfl rfl; exact Zev)) | (apply lW; first | apply W.seq | apply W.region | apply W.skip | (refine Zbc ?_) | (refine Zx ?_; intro w hs)))
  all_goals first | exact GivesS.ofC hst1 hs t1 ⟨hok1, hp1⟩ rfl Zn
 ·cases e
  (refine Ze5 ?_; simp only [argL])
  repeat' (first | (apply gL; first | (apply Wl.ev rfl rfl; exact Zev) | (refine lC 7 118 ?_; refine wl_callS rfl rfl has118 rfl Zl3 ?_; rintro t1 ⟨hok1, hp1⟩) | (refine lC 16 112 ?_; refine wl_call0 rfl rfl has112 rfl (fun w hs => rany (ws := [[63]]) hs Zd Zd hT Zc Zf5 Zp rfl Zdl) ?_) | apply Wl.nil | (apply wl_buildSlice rfl rfl (slT rfl) (szT rfl) (zeroT rfl) rfl Zf7 rfl; exact Zq; intro b)) | (apply gQ; first | (apply Wq.ev rfl rfl; exact Zev)) | (apply lW; first | apply W.seq | apply W.region | apply W.skip | (refine Zbc ?_) | (refine Zx ?_; intro w hs)))
  all_goals first | exact GivesS.ofC hst1 hs t1 ⟨hok1, hp1⟩ rfl Zn
end Go.Proofs.YtbinaeemcidicaaGreat
namespace Go.Proofs.YtbinaeemcidicaaGreat
open Go.PB Go.RowKit
attribute [local irreducible] Go.Calls
theorem lv_lenR (k : Nat) : (levW k).length ≤ 1000000 := by
 unfold levW
 split <;> decide
theorem rlevels_ok {M : List Nat} {w0 w : World} {H : List Ent} {k : Nat} (hst : St M w0 w H) (hk : k < 6) : Calls Tryz.prog 126 #[.int .i64 (k : Nat)] w (GivesS (fun q : Nat => .slice (some ⟨q, 0, none⟩) (levW k).length (levW k).length) (fun _ => True) M w0 fun q => ⟨q, true, row (strV (levW k)) 9⟩ :: H) := by
 have key : ∀ k, k < 6 → Calls Tryz.prog 126 #[.int .i64 (k : Nat)] w (Gives (fun b : Nat => .slice (some ⟨b, 0, none⟩) (levW k).length (levW k).length) (fun _ => True) w (fun _ => []) fun b => [(b, row (strV (levW k)) 9)]) := by
  intro k hk
  refine calls_of_W (vs := [.int .i64 (k : Nat)]) Tryz.func126 rfl Tryz.ntmps126 (Nat.le_of_ble_eq_true rfl) (St.nil w []) ?_
  simp only [argL]
  obtain rfl | rfl | rfl | rfl | rfl | rfl : k = 0 ∨ k = 1 ∨ k = 2 ∨ k = 3 ∨ k = 4 ∨ k = 5 := by omega
  all_goals (repeat' (first | (apply gL; first | (apply Wl.ev rfl rfl; exact Zev) | apply Wl.nil | (apply wl_buildSlice rfl rfl (slT rfl) (szT rfl) (zeroT rfl) rfl Zf7 rfl; exact Zq; intro b)) | (apply gQ; first | (apply Wq.ev rfl rfl; exact Zev)) | (apply lW; first | apply W.seq | apply W.region | apply W.block | apply W.blk | apply W.skip | (refine Zbh ?_) | (refine Zbc ?_) | (refine Zx ?_; intro w hs))))
  all_goals first | exact ret_new hs _ trivial rfl Zb | exact Zz
 exact (key k hk).mono fun _ _ ⟨x, _, he, ht⟩ => ⟨x, trivial, he, hst.turn0 ht⟩
theorem rbin6 {f : Nat} (ihu : RefC f .un 125 []) : RefC f .un 118 [.int .i64 6] := by
 intro M w0 w H K TR r lv L s s' ps hst hu hT hm hsf e
 (obtain ⟨A, p1, p2⟩ := hu.front; have hTA : ∀ e ∈ TR, e ∈ A := fun e he => mem_front p1 (hm e he) (hT.2.1 e he); have hst1 := hst.perm p1; have hlim := hT.2.2.1)
 (refine calls_of_W (vs := [ptr r, .int .i64 6]) Tryz.func118 rfl Tryz.ntmps118 (Nat.le_of_ble_eq_true rfl) hst1.fromHere ?_; simp only [argL])
 repeat' (first | (apply gL; first | (apply Wl.ev rfl rfl; exact Zev) | (refine lC 10 125 ?_; refine wl_callS rfl rfl has125 rfl (fun w hs => rcall ihu hs Zk e hT Zc Zf5) ?_; rintro t1 ⟨hok1, hp1⟩) | apply Wl.nil) | (apply gQ; first | (apply Wq.ev rfl rfl; exact Zev)) | (apply lW; first | apply W.seq | apply W.region | (refine Zbh ?_) | (refine Zx ?_; intro w hs)))
 all_goals first | exact GivesS.ofC hst1 hs t1 ⟨hok1, hp1⟩ rfl Zn
theorem rbin_step {f k : Nat} (hk : k < 6) (ihb : RefC f (binN k) 118 [.int .i64 ((k : Int) + 1)]) : RefC (f + 1) (.bin k) 118 [.int .i64 (k : Nat)] := by
 intro M w0 w H K TR r lv L s s' ps hst hu hT hm hsf e
 (obtain ⟨A, p1, p2⟩ := hu.front; have hTA : ∀ e ∈ TR, e ∈ A := fun e he => mem_front p1 (hm e he) (hT.2.1 e he); have hst1 := hst.perm p1; have hlim := hT.2.2.1)
 rw [rF] at e
 obtain ⟨ps1, s1, e1, e⟩ := bdR_inv e
 have f1 := r_suf e1 hsf
 (refine calls_of_W (vs := [ptr r, .int .i64 (k : Nat)]) Tryz.func118 rfl Tryz.ntmps118 (Nat.le_of_ble_eq_true rfl) hst1.fromHere ?_; simp only [argL])
 repeat' (first | (apply gL; first | (apply Wl.ev rfl rfl; exact Zev) | (refine lC 14 118 ?_; refine wl_callS rfl rfl has118 rfl Zl3 ?_; rintro t1 ⟨hok1, hp1⟩) | apply Wl.nil) | (apply gQ; first | (apply Wq.ev rfl rfl; exact Zev)) | (apply lW; first | apply W.seq | (refine W.loop (X := Nat × Tn × Rs) (fun x => [(0, ptr r), (1, .int .i64 (k : Nat)), (5, ptr x.2.1.b)]) (fun x => ⟨r, true, rdS lv L x.2.2⟩ :: (A ++ rnH x.2.1)) (fun x => x.1 ≤ f ∧ tnOk x.2.1 ∧ x.2.2.1 <:+ L ∧ rF x.1 (.binL k (tnP x.2.1)) x.2.2 = some (ps, s')) (fun x => x.1) (f, t1, s1) ⟨Nat.le_refl _, hok1, f1, by rw [hp1]; exact e⟩ Zm (List.Sublist.refl _) ?_) | apply W.region | apply W.block | apply W.skip | (refine Zv ?_ ?_ <;> (intro h; try exact Zh))))
 all_goals try exact Zz
 rintro ⟨g, t0, ⟨l5, b5⟩⟩ ⟨hg, hok, f5, e⟩
 dsimp only at hg hok f5 e ⊢
 cases g with
 | zero => rw [rF] at e; cases e
 | succ g =>
 rw [rF] at e
 rcases ryA_inv e with ⟨rfl, ha, e⟩ | ⟨rfl, e⟩ | ⟨rfl, ha, e⟩
 ·obtain ⟨t, ht⟩ : ∃ t, hdR (l5, false) = t := ⟨_, rfl⟩
  obtain ⟨s2, h2⟩ : ∃ s2, tkR true (l5, false) = s2 := ⟨_, rfl⟩
  have f2 := tk_suf h2 f5
  rw [h2, ht] at e
  obtain ⟨qs, s6, e6, e⟩ := bdR_inv e
  have e6 := rF_up (show g ≤ f by omega) e6
  have f6 := r_suf e6 f2
  repeat' (first | (apply gL; first | (apply Wl.ev rfl rfl; exact Zev) | (refine lA 6 ?_; refine wl_alloc rfl rfl (zeroT rfl) ?_; intro b6) | (refine Zf6 ?_) | (refine lC 23 126 ?_; refine wl_callS rfl rfl has126 rfl (fun w hs => rlevels_ok hs hk) ?_; intro q hq; clear hq) | (refine lC 34 118 ?_; refine wl_callS rfl rfl has118 rfl (fun w hs => rcall ihb hs Zk e6 hT Zc Zf5) ?_; rintro t2 ⟨hok2, hp2⟩) | (refine lC 24 112 ?_; refine wl_call0 rfl rfl has112 rfl (fun w hs => rany (ws := (levW k)) hs Zd Zd hT Zc Zf5 Zp rfl Zdl) ?_) | (refine lC 27 63 ?_; refine wl_callS rfl rfl has63 rfl Zif ?_; intro q hq; clear hq q) | (refine lC 36 40 ?_; refine wl_callS rfl rfl has40 rfl Zbg ?_; intro bn hq; clear hq) | apply Wl.nil | (refine Zf9 ?_; try simp only [List.set]) | (apply wl_buildSlice rfl rfl (slT rfl) (szT rfl) (zeroT rfl) rfl Zf7 rfl; exact Zq; intro b)) | (apply gQ; first | (apply Wq.ev rfl rfl; exact Zev)) | (apply lW; first | apply W.seq | ((show W _ _ _ _ _ _ (.inl (.region 6 _ true) :: _) _ _); refine W.regionM [] [⟨b6, true, row (tiC t) 42⟩] [⟨b6, true, row (tiC t) 42⟩] mixed ?_) | apply W.region | apply W.block | apply W.blk | apply W.skip | (refine Zbh ?_)) | ((show Wm _ _ _ _ _ _ _ _ _ _ _ _ _ _ _ _); first | ((refine Zgg ?_)) | (refine Zgj ?_) | (refine Zgm ?_) | (refine Zhz ?_) | (refine Zh0 ?_) | (refine Zhy ?_) | ((fail_if_success (refine Zba ?_)); (refine Zgd ?_ ?_ <;> (intro h; try exact Zh))) | ((fail_if_success (refine Zba ?_)); (refine Zgc ?_ ?_ <;> (intro h; try exact Zh))) | apply Wm.next) | apply AllO.nil | apply AllO.cons | (refine Or.inl Zj) | ((show _ ∨ Wl _ _ _ _ _ _ _ _ _ _); apply Or.inr) | (refine Zgl ?_))
  all_goals (refine W.reC (H' := ⟨r, true, rdS lv L s6⟩ :: (A ++ rnH (tnNew bn 15 [] t.t 0 t.a b 2 [t0, t2]))) (by simp only [row_rn] at *; rw [rnH_new (n := 2) rfl]; intro e; simp only [rnsH, List.count_append, cnt_cons, List.map_cons, List.map_nil, List.append_nil]; omega) ?_; exact W.again (g, tnNew bn 15 [] t.t 0 t.a b 2 [t0, t2], s6) ⟨by omega, tnOk_new rfl Zf7 (tnsOk2 hok hok2), f6, by rw [tnP_new, tnsP2, hp2]; exact e⟩ Zc1 Zm (List.Sublist.refl _))
 ·cases e
  repeat' (first | (apply gL; first | (apply Wl.ev rfl rfl; exact Zev) | apply Wl.nil | (refine Zbb ?_)) | (apply gQ; first | (apply Wq.ev rfl rfl; exact Zev)) | (apply lW; first | apply W.seq | apply W.region | (refine Zbm ?_) | (refine Zbc ?_) | (refine Zx ?_; intro w hs)))
  all_goals first | exact GivesS.ofC hst1 hs t0 ⟨hok, rfl⟩ rfl Zn
 ·cases e
  repeat' (first | (apply gL; first | (apply Wl.ev rfl rfl; exact Zev) | (refine lC 23 126 ?_; refine wl_callS rfl rfl has126 rfl (fun w hs => rlevels_ok hs hk) ?_; intro q hq; clear hq) | (refine lC 24 112 ?_; refine wl_call0 rfl rfl has112 rfl (fun w hs => rany (ws := (levW k)) hs Zd Zd hT Zc Zf5 Zp rfl Zdl) ?_) | apply Wl.nil) | (apply gQ; first | (apply Wq.ev rfl rfl; exact Zev)) | (apply lW; first | apply W.seq | apply W.region | (refine Zbm ?_) | (refine Zbc ?_) | (refine Zx ?_; intro w hs)))
  all_goals first | exact GivesS.ofC hst1 hs t0 ⟨hok, rfl⟩ rfl Zn
end Go.Proofs.YtbinaeemcidicaaGreat
namespace Go.Proofs.YtbinaeemcidicaaGreat
open Go.PB Go.RowKit
attribute [local irreducible] Go.Calls
theorem runary_step {f : Nat} (ihu : RefC f .un 125 []) (ihf : RefC f .fst 130 []) : RefC (f + 1) .un 125 [] := by
 intro M w0 w H K TR r lv L ⟨l0, b0⟩ s' ps hst hu hT hm hsf e
 (obtain ⟨A, p1, p2⟩ := hu.front; have hTA : ∀ e ∈ TR, e ∈ A := fun e he => mem_front p1 (hm e he) (hT.2.1 e he); have hst1 := hst.perm p1; have hlim := hT.2.2.1)
 rw [rF] at e
 rcases ryA_inv e with ⟨rfl, ha, e⟩ | ha
 ·obtain ⟨t, ht⟩ : ∃ t, hdR (l0, false) = t := ⟨_, rfl⟩
  obtain ⟨s2, h2⟩ : ∃ s2, tkR true (l0, false) = s2 := ⟨_, rfl⟩
  have f2 := tk_suf h2 hsf
  rw [h2, ht] at e
  obtain ⟨qs, s3, e3, e⟩ := bdR_inv e
  cases e
  (refine Zht ?_; simp only [argL])
  repeat' (first | (apply gL; first | (apply Wl.ev rfl rfl; exact Zev) | (refine Zey ?_; refine wl_alloc rfl rfl (zeroT rfl) ?_; intro b3) | (refine Zf6 ?_) | (refine lC 22 125 ?_; refine wl_callS rfl rfl has125 rfl (fun w hs => rcall ihu hs Zk e3 hT Zc Zf5) ?_; rintro t2 ⟨hok2, hp2⟩) | (refine lC 15 112 ?_; refine wl_call0 rfl rfl has112 rfl Zmy ?_) | (refine lC 18 63 ?_; refine wl_callS rfl rfl has63 rfl Zif ?_; intro q hq; clear hq q) | (refine lC 24 40 ?_; refine wl_callS rfl rfl has40 rfl Zbg ?_; intro bn hq; clear hq) | apply Wl.nil | (refine Zf9 ?_; try simp only [List.set]) | (apply wl_buildSlice rfl rfl (slT rfl) (szT rfl) (zeroT rfl) rfl Zf7 rfl; exact Zq; intro b)) | (apply gQ; first | (apply Wq.ev rfl rfl; exact Zev)) | (apply lW; first | apply W.seq | ((show W _ _ _ _ _ _ (.inl (.region 3 _ true) :: _) _ _); refine W.regionM [] [⟨b3, true, row (tiC t) 42⟩] [⟨b3, true, row (tiC t) 42⟩] mixed ?_) | apply W.region | (refine Zbh ?_) | (refine Zx ?_; intro w hs)) | ((show Wm _ _ _ _ _ _ _ _ _ _ _ _ _ _ _ _); first | ((refine Zgg ?_)) | (refine Zgj ?_) | (refine Zgm ?_) | (refine Zhz ?_) | (refine Zh0 ?_) | (refine Zhy ?_) | ((fail_if_success (refine Zba ?_)); (refine Zgd ?_ ?_ <;> (intro h; try exact Zh))) | ((fail_if_success (refine Zba ?_)); (refine Zgc ?_ ?_ <;> (intro h; try exact Zh))) | apply Wm.next) | apply AllO.nil | apply AllO.cons | (refine Or.inl Zj) | ((show _ ∨ Wl _ _ _ _ _ _ _ _ _ _); apply Or.inr) | (refine Zgl ?_))
  all_goals first | (simp only [row_rn] at hs; exact rnode_new (kb := b) (n := 1) hst1 hs [t2] _ (by simp only [tnsOk]; exact ⟨hok2, trivial⟩) (by simp only [tnsP, hp2]) rfl (show 1 ≤ 1000 by decide) Zco)
 have ha2 : (b0 = true ∨ (b0 = false ∧ anyA [[45], [33]] (hdR (l0, b0)) = false)) ∧ (bdR (rF f .fst (l0, b0)) fun ps s => rF f (.fld (hdP ps)) s) = some (ps, s') := ha.elim (fun h => ⟨.inl h.1, h.2⟩) fun h => ⟨.inr ⟨h.1, h.2.1⟩, h.2.2⟩
 obtain ⟨ha, e0⟩ := ha2
 obtain ⟨ps1, s1, e1, eL⟩ := bdR_inv e0
 clear e0 e
 have f1 := r_suf e1 hsf
 rcases ha with rfl | ⟨rfl, ha⟩
 all_goals
  ((refine Zht ?_; simp only [argL]); repeat' (first | (apply gL; first | (apply Wl.ev rfl rfl; exact Zev) | (refine lC 33 130 ?_; refine wl_callS rfl rfl has130 rfl (fun w hs => rcall ihf hs Zk e1 hT Zc Zf5) ?_; rintro t1 ⟨hok1, hp1⟩) | (refine lC 15 112 ?_; refine wl_call0 rfl rfl has112 rfl Zmy ?_) | apply Wl.nil | (refine Zbb ?_) | (apply wl_buildSlice rfl rfl (slT rfl) (szT rfl) (zeroT rfl) rfl Zf7 rfl; exact Zq; intro b)) | (apply gQ; first | (apply Wq.ev rfl rfl; exact Zev)) | (apply lW; first | apply W.seq | (refine W.loop (X := Nat × Tn × Rs) (fun x => [(0, ptr r), (5, ptr x.2.1.b)]) (fun x => ⟨r, true, rdS lv L x.2.2⟩ :: (A ++ rnH x.2.1)) (fun x => x.1 ≤ f ∧ tnOk x.2.1 ∧ x.2.2.1 <:+ L ∧ rF x.1 (.fld (tnP x.2.1)) x.2.2 = some (ps, s')) (fun x => x.1) (f, t1, s1) ⟨Nat.le_refl _, hok1, f1, by rw [hp1]; exact eL⟩ Zm Zb ?_) | apply W.region | apply W.block | apply W.skip | (refine Zbc ?_))))
  rintro ⟨g, t0, ⟨l5, b5⟩⟩ ⟨hg, hok, f5, e⟩
  dsimp only at hg hok f5 e ⊢
  cases g with
  | zero => rw [rF] at e; cases e
  | succ g =>
   rw [rF] at e
   rcases ryA_inv e with ⟨rfl, hd, e⟩ | ⟨rfl, e⟩ | ⟨rfl, hd, e⟩
   ·obtain ⟨s2, h2⟩ : ∃ s2, tkR true (l5, false) = s2 := ⟨_, rfl⟩
    have f2 := tk_suf h2 f5
    rw [h2] at e
    unfold rtk at e
    obtain ⟨t, ht⟩ : ∃ t, hdR s2 = t := ⟨_, rfl⟩
    obtain ⟨s3, h3⟩ : ∃ s3, tkR (namedT (hdR s2)) s2 = s3 := ⟨_, rfl⟩
    have f3 := tk_suf h3 f2
    rw [h3, ht] at e
    (repeat' (first | (apply gL; first | (apply Wl.ev rfl rfl; exact Zev) | (refine lA 6 ?_; refine wl_alloc rfl rfl (zeroT rfl) ?_; intro b6) | (refine Zf6 ?_) | (refine lC 42 112 ?_; refine wl_call0 rfl rfl has112 rfl (fun w hs => rany (ws := [[46]]) hs Zd Zd hT Zc Zf5 Zp rfl Zdl) ?_) | (refine lC 45 63 ?_; refine wl_callS rfl rfl has63 rfl Zia ?_; intro q hq; clear hq q) | (refine lC 48 65 ?_; refine wl_call0 rfl rfl has65 rfl Zh4 ?_) | (refine lC 49 63 ?_; refine wl_callS rfl rfl has63 rfl Zjl ?_; intro q hq; clear hq q) | (refine lC 54 40 ?_; refine wl_callS rfl rfl has40 rfl Zbg ?_; intro bn hq; clear hq) | apply Wl.nil | (refine Zf9 ?_; try simp only [List.set]) | (apply wl_buildSlice rfl rfl (slT rfl) (szT rfl) (zeroT rfl) rfl Zf7 rfl; exact Zq; intro b)) | (apply gQ; first | (apply Wq.ev rfl rfl; exact Zev)) | (apply lW; first | apply W.seq | apply W.region | apply W.block | apply W.blk | apply W.skip | (refine Zbh ?_))))
    all_goals (refine W.reC (H' := ⟨r, true, rdS lv L s3⟩ :: (A ++ rnH (tnNew bn 18 [] t.t 0 t.a b 1 [t0]))) (by simp only [row_rn] at *; rw [rnH_new (n := 1) rfl]; intro e; simp only [rnsH, List.count_append, cnt_cons, List.map_cons, List.map_nil, List.append_nil]; omega) ?_; exact W.again (g, tnNew bn 18 [] t.t 0 t.a b 1 [t0], s3) ⟨by omega, tnOk_new rfl Zf7 (tnsOk1 hok), f3, by rw [tnP_new, tnsP1]; exact e⟩ Zc1 Zm (List.Sublist.refl _))
   ·cases e
    (repeat' (first | (apply gL; first | (apply Wl.ev rfl rfl; exact Zev) | apply Wl.nil | (refine Zbb ?_)) | (apply gQ; first | (apply Wq.ev rfl rfl; exact Zev)) | (apply lW; first | apply W.seq | apply W.region | (refine Zbm ?_) | (refine Zbc ?_) | (refine Zx ?_; intro w hs))))
    all_goals first | exact GivesS.ofC hst1 hs t0 ⟨hok, rfl⟩ rfl Zn
   ·cases e
    (repeat' (first | (apply gL; first | (apply Wl.ev rfl rfl; exact Zev) | (refine lC 42 112 ?_; refine wl_call0 rfl rfl has112 rfl (fun w hs => rany (ws := [[46]]) hs Zd Zd hT Zc Zf5 Zp rfl Zdl) ?_) | apply Wl.nil | (apply wl_buildSlice rfl rfl (slT rfl) (szT rfl) (zeroT rfl) rfl Zf7 rfl; exact Zq; intro b)) | (apply gQ; first | (apply Wq.ev rfl rfl; exact Zev)) | (apply lW; first | apply W.seq | apply W.region | (refine Zbm ?_) | (refine Zbc ?_) | (refine Zx ?_; intro w hs))))
    all_goals first | exact GivesS.ofC hst1 hs t0 ⟨hok, rfl⟩ rfl Zn
theorem rbound_step (f : Nat) : RefC (f + 1) .bnd 124 [] := by
 intro M w0 w H K TR r lv L ⟨l0, b0⟩ s' ps hst hu hT hm hsf e
 have hx0 : ∀ (s : Rs) (u : Ti), hdR s = u → s.1 <:+ L → IntKind.wrap .i32 (-u.x) = -u.x := fun s u hu hs => by
  have hb : -2147483648 < u.x ∧ u.x ≤ 2147483647 := by
   obtain ⟨l, b⟩ := s
   subst hu
   cases l with
   | nil => exact ⟨show (-2147483648 : Int) < 0 by decide, show (0 : Int) ≤ 2147483647 by decide⟩
   | cons t l => exact hT.2.2.2 t (hs.subset (List.Mem.head _))
  exact IntWalk.i32_in _ Zga
 (obtain ⟨A, p1, p2⟩ := hu.front; have hTA : ∀ e ∈ TR, e ∈ A := fun e he => mem_front p1 (hm e he) (hT.2.1 e he); have hst1 := hst.perm p1; have hlim := hT.2.2.1)
 rw [rF] at e
 obtain ⟨t, ht⟩ : ∃ t, hdR (l0, b0) = t := ⟨_, rfl⟩
 rcases ryA_inv e with ⟨rfl, ha, e⟩ | ⟨rfl, e⟩ | ⟨rfl, ha, e⟩
 ·obtain ⟨s2, h2⟩ : ∃ s2, tkR true (l0, false) = s2 := ⟨_, rfl⟩
  have f2 := tk_suf h2 hsf
  unfold rtk at e
  rw [h2, ht] at e
  obtain ⟨u, hu2⟩ : ∃ u, hdR s2 = u := ⟨_, rfl⟩
  have h3 : tkR (decide (u.k = 2)) s2 = tkR (wholeT u) s2 := rfl
  rw [hu2] at e
  obtain ⟨s3, h4⟩ : ∃ s3, tkR (wholeT u) s2 = s3 := ⟨_, rfl⟩
  rw [h4] at e h3
  cases e
  (refine Ze6 ?_; simp only [argL])
  repeat' (first | (apply gL; first | (apply Wl.ev rfl rfl; exact Zev) | (refine lC 17 112 ?_; refine wl_call0 rfl rfl has112 rfl (fun w hs => rany (ws := [[45]]) hs Zd Zd hT Zc Zf5 Zp rfl Zdl) ?_) | (refine lC 6 61 ?_; refine wl_call0 rfl rfl has61 rfl Zkm ?_) | (refine lC 25 61 ?_; refine wl_call0 rfl rfl has61 rfl Zkm ?_) | (refine lC 21 63 ?_; refine wl_callS rfl rfl has63 rfl Zia ?_; intro q hq; clear hq q) | (refine lC 28 63 ?_; refine wl_callS rfl rfl has63 rfl (fun w hs => rtakeV hs Ze h3 hu2 hT Zc Zf5 Zi) ?_; intro q hq; clear hq q) | (refine lC 8 40 ?_; refine wl_callS rfl rfl has40 rfl Zbg ?_; intro bn hq; clear hq) | apply Wl.nil | (refine Zf9 ?_; try simp only [List.set]) | (apply wl_buildSlice rfl rfl (slT rfl) (szT rfl) (zeroT rfl) rfl Zf7 rfl; exact Zq; intro b)) | (apply gQ; first | (apply Wq.ev rfl rfl; exact Zev)) | (apply lW; first | apply W.seq | apply W.region | (refine Zbh ?_) | (refine Zx ?_; intro w hs)))
  all_goals first | (rw [hx0 _ _ hu2 f2] at hs; simp only [row_rn] at hs; exact rnode_leaf hst1 hs Zn)
 ·unfold rtk at e
  rw [ht] at e
  have h3 : tkR (decide (t.k = 2)) (l0, true) = tkR (wholeT t) (l0, true) := rfl
  obtain ⟨s3, h4⟩ : ∃ s3, tkR (wholeT t) (l0, true) = s3 := ⟨_, rfl⟩
  rw [h4] at e h3
  cases e
  (refine Ze6 ?_; simp only [argL])
  repeat' (first | (apply gL; first | (apply Wl.ev rfl rfl; exact Zev) | (refine lC 6 61 ?_; refine wl_call0 rfl rfl has61 rfl Zkm ?_) | (refine lC 25 61 ?_; refine wl_call0 rfl rfl has61 rfl Zkm ?_) | (refine lC 28 63 ?_; refine wl_callS rfl rfl has63 rfl Zjl ?_; intro q hq; clear hq q) | (refine lC 8 40 ?_; refine wl_callS rfl rfl has40 rfl Zbg ?_; intro bn hq; clear hq) | apply Wl.nil | (refine Zbb ?_) | (refine Zf9 ?_; try simp only [List.set])) | (apply gQ; first | (apply Wq.ev rfl rfl; exact Zev)) | (apply lW; first | apply W.seq | apply W.region | apply W.skip | (refine Zbc ?_) | (refine Zx ?_; intro w hs)))
  all_goals first | (simp only [row_rn] at hs; exact rnode_leaf hst1 hs Zn)
 ·unfold rtk at e
  rw [ht] at e
  have h3 : tkR (decide (t.k = 2)) (l0, false) = tkR (wholeT t) (l0, false) := rfl
  obtain ⟨s3, h4⟩ : ∃ s3, tkR (wholeT t) (l0, false) = s3 := ⟨_, rfl⟩
  rw [h4] at e h3
  cases e
  (refine Ze6 ?_; simp only [argL])
  repeat' (first | (apply gL; first | (apply Wl.ev rfl rfl; exact Zev) | (refine lC 17 112 ?_; refine wl_call0 rfl rfl has112 rfl (fun w hs => rany (ws := [[45]]) hs Zd Zd hT Zc Zf5 Zp rfl Zdl) ?_) | (refine lC 6 61 ?_; refine wl_call0 rfl rfl has61 rfl Zkm ?_) | (refine lC 25 61 ?_; refine wl_call0 rfl rfl has61 rfl Zkm ?_) | (refine lC 28 63 ?_; refine wl_callS rfl rfl has63 rfl Zjl ?_; intro q hq; clear hq q) | (refine lC 8 40 ?_; refine wl_callS rfl rfl has40 rfl Zbg ?_; intro bn hq; clear hq) | apply Wl.nil | (refine Zf9 ?_; try simp only [List.set]) | (apply wl_buildSlice rfl rfl (slT rfl) (szT rfl) (zeroT rfl) rfl Zf7 rfl; exact Zq; intro b)) | (apply gQ; first | (apply Wq.ev rfl rfl; exact Zev)) | (apply lW; first | apply W.seq | apply W.region | apply W.skip | (refine Zbc ?_) | (refine Zx ?_; intro w hs)))
  all_goals first | (simp only [row_rn] at hs; exact rnode_leaf hst1 hs Zn)
end Go.Proofs.YtbinaeemcidicaaGreat
