/- Walks: an expression that is no assignment. No condition. -/
import Derived.Test.YtbinaeemcidicaaGreatDoorZPF
set_option maxRecDepth 100000
set_option maxHeartbeats 16000000
namespace Go.Proofs.YtbinaeemcidicaaGreatDoor
open Go.PB Go.RowKit
attribute [local irreducible] Go.Calls
theorem cond_step {f : Nat} (ihb : NodeC f (.bin 0) 164 [.int .i64 0]) (ihe : NodeC f .expr 99 []) (ihc : NodeC f .cond 136 []) : NodeC (f + 1) .cond 136 [] := by
 intro M w0 w H K TR r a lv L l l' o hst hu hT hm hl e
 (obtain ⟨A, p1, p2⟩ := hu.front; have hTA : ∀ e ∈ TR, e ∈ A := fun e he => mem_front p1 (hm e he) (hT.2.1 e he); have hst1 := hst.perm p1; have hlim := hT.2.2.1)
 rw [pF] at e
 rcases bnd_cases e with ⟨e1, rfl⟩ | ⟨ps, l1, e1, e⟩
 ·(refine Zcn ?_; simp only [argL])
  repeat' (first | (apply gL; first | (apply Wl.ev rfl rfl; exact Zev) | (refine lC 8 164 ?_; first | (refine Zik ?_; rintro t1 ⟨hok1, hp1⟩) | (refine Zin ?_; (first | refine bad_end ?_ | refine bad_endM ?_); intro w hs)) | apply Wl.nil) | (apply gQ; first | (apply Wq.ev rfl rfl; exact Zev)) | (apply lW; first | apply W.seq | apply W.region))
  all_goals first | exact BadS.ofC hst1 hs Zo
 have a1 := hl.step e1
 rcases may_cases [[63]] l1 with ⟨t, l2, rfl, c⟩ | c
 ·rw [mayP_yes c] at e
  have a2 := a1.next
  rcases bnd_cases e with ⟨e2, rfl⟩ | ⟨qs, l3, e2, e⟩
  ·(refine Zcn ?_; simp only [argL])
   repeat' (first | (apply gL; first | (apply Wl.ev rfl rfl; exact Zev) | (refine lA 4 ?_; refine wl_alloc rfl rfl (zeroT rfl) ?_; intro b4) | (refine Zf8 ?_) | (refine lC 8 164 ?_; first | (refine Zik ?_; rintro t1 ⟨hok1, hp1⟩) | (refine Zin ?_; (first | refine bad_end ?_ | refine bad_endM ?_); intro w hs)) | (refine lC 19 99 ?_; first | (refine Zhz ?_; rintro t2 ⟨hok2, hp2⟩) | (refine Zh1 ?_; (first | refine bad_end ?_ | refine bad_endM ?_); intro w hs)) | (refine Zf0 ?_; first | (refine Zi4 ?_; intro q hq; clear hq q) | (refine Zi7 ?_; intro q hq; clear hq q)) | apply Wl.nil | (apply wl_buildSlice rfl rfl (slT rfl) (szT rfl) (zeroT rfl) rfl Zf6 rfl; exact Zt; intro b)) | (apply gQ; first | (apply Wq.ev rfl rfl; exact Zev)) | (apply lW; first | apply W.seq | apply W.region | apply W.skip | (refine Zbg ?_)) | ((show Wm _ _ _ _ _ _ _ _ _ _ _ _ _ _ _ _); first | ((refine Zgg ?_)) | (refine Zgq ?_) | (refine Zgs ?_) | (refine Zh4 ?_) | (refine Zkl ?_) | (refine Zj5 ?_) | ((fail_if_success (refine Zbn ?_)); (refine Zgc ?_ ?_ <;> (intro h; try exact Zg))) | ((fail_if_success (refine Zbn ?_)); (refine Zga ?_ ?_ <;> (intro h; try exact Zg))) | apply Wm.next) | apply AllO.nil | apply AllO.cons | (refine Or.inl Zk) | ((show _ ∨ Wl _ _ _ _ _ _ _ _ _ _); apply Or.inr) | (refine Zg5 ?_))
   all_goals first | exact BadS.ofC hst1 hs Zo
  have a3 := a2.step e2
  rcases tk_cases (isA [[58]]) l3 with ⟨t4, l4, rfl, c2⟩ | c2
  ·rw [tkP_ok c2] at e
   have a4 := a3.next
   rcases bnd_cases e with ⟨e3, rfl⟩ | ⟨rs, l5, e3, e⟩
   ·(refine Zcn ?_; simp only [argL])
    repeat' (first | (apply gL; first | (apply Wl.ev rfl rfl; exact Zev) | (refine lA 4 ?_; refine wl_alloc rfl rfl (zeroT rfl) ?_; intro b4) | (refine Zf8 ?_) | (refine lC 8 164 ?_; first | (refine Zik ?_; rintro t1 ⟨hok1, hp1⟩) | (refine Zin ?_; (first | refine bad_end ?_ | refine bad_endM ?_); intro w hs)) | (refine lC 19 99 ?_; first | (refine Zhz ?_; rintro t2 ⟨hok2, hp2⟩) | (refine Zh1 ?_; (first | refine bad_end ?_ | refine bad_endM ?_); intro w hs)) | (refine lC 26 136 ?_; first | (refine wl_callS rfl rfl has136 rfl (fun w hs => node_ok ihc hs Zf5 Zf5 Zh hT Zc) ?_; rintro t3 ⟨hok3, hp3⟩) | (refine wl_callB0 rfl has136 rfl (fun w hs => node_bad ihc hs Zf5 Zf5 Zh hT Zc) ?_; (first | refine bad_end ?_ | refine bad_endM ?_); intro w hs)) | (refine Zf0 ?_; first | (refine Zi4 ?_; intro q hq; clear hq q) | (refine Zi7 ?_; intro q hq; clear hq q)) | (refine lC 21 94 ?_; first | (refine Zho ?_; intro q hq; clear hq q) | (refine Zhp ?_; (first | refine bad_end ?_ | refine bad_endM ?_); intro w hs)) | apply Wl.nil | (apply wl_buildSlice rfl rfl (slT rfl) (szT rfl) (zeroT rfl) rfl Zf6 rfl; exact Zt; intro b)) | (apply gQ; first | (apply Wq.ev rfl rfl; exact Zev)) | (apply lW; first | apply W.seq | ((show W _ _ _ _ _ _ (.inl (.region 7 _ true) :: _) _ _); refine W.regionM [] [⟨b4, true, row (tiC t) 67⟩] [⟨b4, true, row (tiC t) 67⟩] mixed ?_) | apply W.region | apply W.skip | (refine Zbg ?_)) | ((show Wm _ _ _ _ _ _ _ _ _ _ _ _ _ _ _ _); first | ((refine Zgg ?_)) | (refine Zgq ?_) | (refine Zgs ?_) | (refine Zh4 ?_) | (refine Zkl ?_) | (refine Zj5 ?_) | ((fail_if_success (refine Zbn ?_)); (refine Zgc ?_ ?_ <;> (intro h; try exact Zg))) | ((fail_if_success (refine Zbn ?_)); (refine Zga ?_ ?_ <;> (intro h; try exact Zg))) | apply Wm.next) | apply AllO.nil | apply AllO.cons | (refine Or.inl Zk) | ((show _ ∨ Wl _ _ _ _ _ _ _ _ _ _); apply Or.inr) | (refine Zg5 ?_))
    all_goals first | exact BadS.ofC hst1 hs Zo
   ·cases e
    (refine Zcn ?_; simp only [argL])
    repeat' (first | (apply gL; first | (apply Wl.ev rfl rfl; exact Zev) | (refine lA 4 ?_; refine wl_alloc rfl rfl (zeroT rfl) ?_; intro b4) | (refine Zf8 ?_) | (refine lC 8 164 ?_; first | (refine Zik ?_; rintro t1 ⟨hok1, hp1⟩) | (refine Zin ?_; (first | refine bad_end ?_ | refine bad_endM ?_); intro w hs)) | (refine lC 19 99 ?_; first | (refine Zhz ?_; rintro t2 ⟨hok2, hp2⟩) | (refine Zh1 ?_; (first | refine bad_end ?_ | refine bad_endM ?_); intro w hs)) | (refine lC 26 136 ?_; first | (refine wl_callS rfl rfl has136 rfl (fun w hs => node_ok ihc hs Zf5 Zf5 Zh hT Zc) ?_; rintro t3 ⟨hok3, hp3⟩) | (refine wl_callB0 rfl has136 rfl (fun w hs => node_bad ihc hs Zf5 Zf5 Zh hT Zc) ?_; (first | refine bad_end ?_ | refine bad_endM ?_); intro w hs)) | (refine Zf0 ?_; first | (refine Zi4 ?_; intro q hq; clear hq q) | (refine Zi7 ?_; intro q hq; clear hq q)) | (refine lC 21 94 ?_; first | (refine Zho ?_; intro q hq; clear hq q) | (refine Zhp ?_; (first | refine bad_end ?_ | refine bad_endM ?_); intro w hs)) | (refine lC 28 93 ?_; refine wl_callS rfl rfl has93 rfl Zbm ?_; intro bn hq; clear hq) | apply Wl.nil | (apply wl_buildSlice rfl rfl (slT rfl) (szT rfl) (zeroT rfl) rfl Zf6 rfl; exact Zt; intro b)) | (apply gQ; first | (apply Wq.ev rfl rfl; exact Zev)) | (apply lW; first | apply W.seq | ((show W _ _ _ _ _ _ (.inl (.region 7 _ true) :: _) _ _); refine W.regionM [] [⟨b4, true, row (tiC t) 67⟩] [⟨b4, true, row (tiC t) 67⟩] mixed ?_) | apply W.region | apply W.skip | (refine Zbg ?_) | (refine Zba ?_; intro w hs)) | ((show Wm _ _ _ _ _ _ _ _ _ _ _ _ _ _ _ _); first | ((refine Zgg ?_)) | (refine Zgq ?_) | (refine Zgs ?_) | (refine Zh4 ?_) | (refine Zkl ?_) | (refine Zj5 ?_) | ((fail_if_success (refine Zbn ?_)); (refine Zgc ?_ ?_ <;> (intro h; try exact Zg))) | ((fail_if_success (refine Zbn ?_)); (refine Zga ?_ ?_ <;> (intro h; try exact Zg))) | apply Wm.next) | apply AllO.nil | apply AllO.cons | (refine Or.inl Zk) | ((show _ ∨ Wl _ _ _ _ _ _ _ _ _ _); apply Or.inr) | (refine Zg5 ?_))
    all_goals first | exact node_new (kb := b) (n := 3) hst1 hs [t1, t2, t3] _ (by simp only [tnsOk]; exact ⟨hok1, hok2, hok3, trivial⟩) (by simp only [tnsP, hp1, hp2, hp3]) rfl (show 3 ≤ 1000 by decide) Zb5
  ·rw [tkP_bad c2] at e
   cases e
   (refine Zcn ?_; simp only [argL])
   repeat' (first | (apply gL; first | (apply Wl.ev rfl rfl; exact Zev) | (refine lA 4 ?_; refine wl_alloc rfl rfl (zeroT rfl) ?_; intro b4) | (refine Zf8 ?_) | (refine lC 8 164 ?_; first | (refine Zik ?_; rintro t1 ⟨hok1, hp1⟩) | (refine Zin ?_; (first | refine bad_end ?_ | refine bad_endM ?_); intro w hs)) | (refine lC 19 99 ?_; first | (refine Zhz ?_; rintro t2 ⟨hok2, hp2⟩) | (refine Zh1 ?_; (first | refine bad_end ?_ | refine bad_endM ?_); intro w hs)) | (refine Zf0 ?_; first | (refine Zi4 ?_; intro q hq; clear hq q) | (refine Zi7 ?_; intro q hq; clear hq q)) | (refine lC 21 94 ?_; first | (refine Zho ?_; intro q hq; clear hq q) | (refine Zhp ?_; (first | refine bad_end ?_ | refine bad_endM ?_); intro w hs)) | apply Wl.nil | (apply wl_buildSlice rfl rfl (slT rfl) (szT rfl) (zeroT rfl) rfl Zf6 rfl; exact Zt; intro b)) | (apply gQ; first | (apply Wq.ev rfl rfl; exact Zev)) | (apply lW; first | apply W.seq | apply W.region | apply W.skip | (refine Zbg ?_)) | ((show Wm _ _ _ _ _ _ _ _ _ _ _ _ _ _ _ _); first | ((refine Zgg ?_)) | (refine Zgq ?_) | (refine Zgs ?_) | (refine Zh4 ?_) | (refine Zkl ?_) | (refine Zj5 ?_) | ((fail_if_success (refine Zbn ?_)); (refine Zgc ?_ ?_ <;> (intro h; try exact Zg))) | ((fail_if_success (refine Zbn ?_)); (refine Zga ?_ ?_ <;> (intro h; try exact Zg))) | apply Wm.next) | apply AllO.nil | apply AllO.cons | (refine Or.inl Zk) | ((show _ ∨ Wl _ _ _ _ _ _ _ _ _ _); apply Or.inr) | (refine Zg5 ?_))
   all_goals first | exact BadS.ofC hst1 hs Zo
 ·rw [mayP_no c] at e
  cases e
  (refine Zcn ?_; simp only [argL])
  repeat' (first | (apply gL; first | (apply Wl.ev rfl rfl; exact Zev) | (refine Zf8 ?_) | (refine lC 8 164 ?_; first | (refine Zik ?_; rintro t1 ⟨hok1, hp1⟩) | (refine Zin ?_; (first | refine bad_end ?_ | refine bad_endM ?_); intro w hs)) | (refine Zf0 ?_; first | (refine Zi4 ?_; intro q hq; clear hq q) | (refine Zi7 ?_; intro q hq; clear hq q)) | apply Wl.nil | (refine Zbd ?_; intro b) | (apply wl_buildSlice rfl rfl (slT rfl) (szT rfl) (zeroT rfl) rfl Zf6 rfl; exact Zt; intro b)) | (apply gQ; first | (apply Wq.ev rfl rfl; exact Zev)) | (apply lW; first | apply W.seq | apply W.region | (refine Zbk ?_) | (refine Zba ?_; intro w hs)))
  all_goals first | exact GivesS.ofC hst1 hs t1 ⟨hok1, hp1⟩ rfl Zo
end Go.Proofs.YtbinaeemcidicaaGreatDoor
namespace Go.Proofs.YtbinaeemcidicaaGreatDoor
open Go.PB Go.RowKit
attribute [local irreducible] Go.Calls
theorem unary_step {f : Nat} (ihu : NodeC f .un 182 []) (ihf : NodeC f .fst 197 []) : NodeC (f + 1) .un 182 [] := by
 intro M w0 w H K TR r a lv L l l' o hst hu hT hm hl e
 (obtain ⟨A, p1, p2⟩ := hu.front; have hTA : ∀ e ∈ TR, e ∈ A := fun e he => mem_front p1 (hm e he) (hT.2.1 e he); have hst1 := hst.perm p1; have hlim := hT.2.2.1)
 rw [pF] at e
 rcases may_cases [[45], [33]] l with ⟨t, l2, rfl, c⟩ | c
 ·rw [mayP_yes c] at e
  have a2 := hl.next
  rcases bnd_cases e with ⟨e2, rfl⟩ | ⟨qs, l3, e2, e⟩
  ·(refine Zdn ?_; simp only [argL])
   repeat' (first | (apply gL; first | (apply Wl.ev rfl rfl; exact Zev) | (refine lA 3 ?_; refine wl_alloc rfl rfl (zeroT rfl) ?_; intro b3) | (refine Zf8 ?_) | (refine lC 20 182 ?_; first | (refine wl_callS rfl rfl has182 rfl (fun w hs => node_ok ihu hs Zf5 Zf5 Zh hT Zc) ?_; rintro t2 ⟨hok2, hp2⟩) | (refine wl_callB0 rfl has182 rfl (fun w hs => node_bad ihu hs Zf5 Zf5 Zh hT Zc) ?_; (first | refine bad_end ?_ | refine bad_endM ?_); intro w hs)) | (refine Zf0 ?_; first | (refine Zjm ?_; intro q hq; clear hq q) | (refine Zjn ?_; intro q hq; clear hq q)) | apply Wl.nil | (apply wl_buildSlice rfl rfl (slT rfl) (szT rfl) (zeroT rfl) rfl Zf6 rfl; exact Zt; intro b)) | (apply gQ; first | (apply Wq.ev rfl rfl; exact Zev)) | (apply lW; first | apply W.seq | ((show W _ _ _ _ _ _ (.inl (.region 3 _ true) :: _) _ _); refine W.regionM [] [⟨b3, true, row (tiC t) 67⟩] [⟨b3, true, row (tiC t) 67⟩] mixed ?_) | apply W.region | (refine Zbk ?_)) | ((show Wm _ _ _ _ _ _ _ _ _ _ _ _ _ _ _ _); first | ((refine Zgg ?_)) | (refine Zgq ?_) | (refine Zgs ?_) | (refine Zh4 ?_) | (refine Zkl ?_) | (refine Zj5 ?_) | ((fail_if_success (refine Zbn ?_)); (refine Zgc ?_ ?_ <;> (intro h; try exact Zg))) | ((fail_if_success (refine Zbn ?_)); (refine Zga ?_ ?_ <;> (intro h; try exact Zg))) | apply Wm.next) | apply AllO.nil | apply AllO.cons | (refine Or.inl Zk) | ((show _ ∨ Wl _ _ _ _ _ _ _ _ _ _); apply Or.inr) | (refine Zg5 ?_))
   all_goals first | exact BadS.ofC hst1 hs Zo
  ·cases e
   (refine Zdn ?_; simp only [argL])
   repeat' (first | (apply gL; first | (apply Wl.ev rfl rfl; exact Zev) | (refine lA 3 ?_; refine wl_alloc rfl rfl (zeroT rfl) ?_; intro b3) | (refine Zf8 ?_) | (refine lC 20 182 ?_; first | (refine wl_callS rfl rfl has182 rfl (fun w hs => node_ok ihu hs Zf5 Zf5 Zh hT Zc) ?_; rintro t2 ⟨hok2, hp2⟩) | (refine wl_callB0 rfl has182 rfl (fun w hs => node_bad ihu hs Zf5 Zf5 Zh hT Zc) ?_; (first | refine bad_end ?_ | refine bad_endM ?_); intro w hs)) | (refine Zf0 ?_; first | (refine Zjm ?_; intro q hq; clear hq q) | (refine Zjn ?_; intro q hq; clear hq q)) | (refine lC 22 93 ?_; refine wl_callS rfl rfl has93 rfl Zbm ?_; intro bn hq; clear hq) | apply Wl.nil | (apply wl_buildSlice rfl rfl (slT rfl) (szT rfl) (zeroT rfl) rfl Zf6 rfl; exact Zt; intro b)) | (apply gQ; first | (apply Wq.ev rfl rfl; exact Zev)) | (apply lW; first | apply W.seq | ((show W _ _ _ _ _ _ (.inl (.region 3 _ true) :: _) _ _); refine W.regionM [] [⟨b3, true, row (tiC t) 67⟩] [⟨b3, true, row (tiC t) 67⟩] mixed ?_) | apply W.region | (refine Zbk ?_) | (refine Zba ?_; intro w hs)) | ((show Wm _ _ _ _ _ _ _ _ _ _ _ _ _ _ _ _); first | ((refine Zgg ?_)) | (refine Zgq ?_) | (refine Zgs ?_) | (refine Zh4 ?_) | (refine Zkl ?_) | (refine Zj5 ?_) | ((fail_if_success (refine Zbn ?_)); (refine Zgc ?_ ?_ <;> (intro h; try exact Zg))) | ((fail_if_success (refine Zbn ?_)); (refine Zga ?_ ?_ <;> (intro h; try exact Zg))) | apply Wm.next) | apply AllO.nil | apply AllO.cons | (refine Or.inl Zk) | ((show _ ∨ Wl _ _ _ _ _ _ _ _ _ _); apply Or.inr) | (refine Zg5 ?_))
   all_goals first | exact node_new (kb := b) (n := 1) hst1 hs [t2] _ (by simp only [tnsOk]; exact ⟨hok2, trivial⟩) (by simp only [tnsP, hp2]) rfl (show 1 ≤ 1000 by decide) Zb5
 rw [mayP_no c] at e
 rcases bnd_cases e with ⟨e1, rfl⟩ | ⟨ps, l1, e1, e⟩
 ·(refine Zdn ?_; simp only [argL])
  repeat' (first | (apply gL; first | (apply Wl.ev rfl rfl; exact Zev) | (refine Zf8 ?_) | (refine lC 24 197 ?_; first | (refine wl_callS rfl rfl has197 rfl (fun w hs => node_ok ihf hs Zf5 Zf5 Zh hT Zc) ?_; rintro t1 ⟨hok1, hp1⟩) | (refine wl_callB0 rfl has197 rfl (fun w hs => node_bad ihf hs Zf5 Zf5 Zh hT Zc) ?_; (first | refine bad_end ?_ | refine bad_endM ?_); intro w hs)) | (refine Zf0 ?_; first | (refine Zjm ?_; intro q hq; clear hq q) | (refine Zjn ?_; intro q hq; clear hq q)) | apply Wl.nil | (refine Zbd ?_; intro b) | (apply wl_buildSlice rfl rfl (slT rfl) (szT rfl) (zeroT rfl) rfl Zf6 rfl; exact Zt; intro b)) | (apply gQ; first | (apply Wq.ev rfl rfl; exact Zev)) | (apply lW; first | apply W.seq | apply W.region | apply W.skip | (refine Zbg ?_)))
  all_goals first | exact BadS.ofC hst1 hs Zo
 have a1 := hl.step e1
 (refine Zdn ?_; simp only [argL])
 repeat' (first | (apply gL; first | (apply Wl.ev rfl rfl; exact Zev) | (refine Zf8 ?_) | (refine lC 24 197 ?_; first | (refine wl_callS rfl rfl has197 rfl (fun w hs => node_ok ihf hs Zf5 Zf5 Zh hT Zc) ?_; rintro t1 ⟨hok1, hp1⟩) | (refine wl_callB0 rfl has197 rfl (fun w hs => node_bad ihf hs Zf5 Zf5 Zh hT Zc) ?_; (first | refine bad_end ?_ | refine bad_endM ?_); intro w hs)) | (refine Zf0 ?_; first | (refine Zjm ?_; intro q hq; clear hq q) | (refine Zjn ?_; intro q hq; clear hq q)) | apply Wl.nil | (refine Zbd ?_; intro b) | (apply wl_buildSlice rfl rfl (slT rfl) (szT rfl) (zeroT rfl) rfl Zf6 rfl; exact Zt; intro b)) | (apply gQ; first | (apply Wq.ev rfl rfl; exact Zev)) | (apply lW; first | apply W.seq | (refine W.loop (X := Nat × Tn × List Ti) (fun x => [(0, ptr r), (5, ptr x.2.1.b)]) (fun x => ⟨r, true, rdP lv (L.length - x.2.2.length)⟩ :: (A ++ tnH x.2.1)) (fun x => x.1 ≤ f ∧ tnOk x.2.1 ∧ At L (L.length - x.2.2.length) x.2.2 ∧ pF x.1 (.fld (tnP x.2.1)) x.2.2 = some (o, l')) (fun x => x.1) (f, t1, l1) ⟨Nat.le_refl _, hok1, a1, by rw [hp1]; exact e⟩ Zn Ze ?_) | apply W.region | apply W.block | apply W.skip | (refine Zbg ?_)))
 rintro ⟨g, t, l5⟩ ⟨hg, hok, at5, e⟩
 dsimp only at hg hok at5 e ⊢
 cases g with
 | zero => rw [pF] at e; cases e
 | succ g =>
 rw [pF] at e
 rcases may_cases [[46]] l5 with ⟨s5, l6, rfl, c5⟩ | c5
 ·rw [mayP_yes c5] at e
  have at6 := at5.next
  rcases tk_cases namedT l6 with ⟨s6, l7, rfl, c6⟩ | c6
  ·rw [tkP_ok c6] at e
   have at7 := at6.next
   have hlen : L.length - (s5 :: s6 :: l7).length + 1 + 1 = L.length - l7.length := at7.len
   repeat' (first | (apply gL; first | (apply Wl.ev rfl rfl; exact Zev) | (refine Zf8 ?_) | (refine lC 28 98 ?_; first | (refine Zk1 ?_; intro q hq; clear hq q) | (refine Zk4 ?_; intro q hq; clear hq q)) | (refine lC 35 57 ?_; first | (refine Zhu ?_; intro q hq; clear hq q) | (refine Zhv ?_; (first | refine bad_end ?_ | refine bad_endM ?_); intro w hs)) | (refine lC 41 93 ?_; refine wl_callS rfl rfl has93 rfl Zbm ?_; intro bn hq; clear hq) | apply Wl.nil | (refine Zbd ?_; intro b) | (apply wl_buildSlice rfl rfl (slT rfl) (szT rfl) (zeroT rfl) rfl Zf6 rfl; exact Zt; intro b)) | (apply gQ; first | (apply Wq.ev rfl rfl; exact Zev)) | (apply lW; first | apply W.seq | apply W.region | apply W.block | apply W.blk | apply W.skip | (refine Zbg ?_)))
   refine W.reC (H' := ⟨r, true, rdP lv (L.length - l7.length)⟩ :: (A ++ tnH (tnNew bn 18 [] s6.t 0 s6.a b 1 [t]))) (by rw [← hlen, tnH_new (n := 1) rfl, tnsH1]; (intro e; simp only [List.count_append, cnt_cons, List.map_cons, List.map_nil]; omega)) ?_
   exact W.again (g, tnNew bn 18 [] s6.t 0 s6.a b 1 [t], l7) ⟨by omega, tnOk_new rfl Zf6 (tnsOk1 hok), by rw [← hlen]; exact at7, by rw [tnP_new, tnsP1]; exact e⟩ Ze6 Zn (List.Sublist.refl _)
  ·rw [tkP_bad c6] at e
   cases e
   have hlen : L.length - (s5 :: l').length + 1 = L.length - l'.length := at6.len
   rw [← hlen] at p2
   repeat' (first | (apply gL; first | (apply Wl.ev rfl rfl; exact Zev) | (refine Zf8 ?_) | (refine lC 28 98 ?_; first | (refine Zk1 ?_; intro q hq; clear hq q) | (refine Zk4 ?_; intro q hq; clear hq q)) | (refine lC 35 57 ?_; first | (refine Zhu ?_; intro q hq; clear hq q) | (refine Zhv ?_; (first | refine bad_end ?_ | refine bad_endM ?_); intro w hs)) | apply Wl.nil | (refine Zbd ?_; intro b) | (apply wl_buildSlice rfl rfl (slT rfl) (szT rfl) (zeroT rfl) rfl Zf6 rfl; exact Zt; intro b)) | (apply gQ; first | (apply Wq.ev rfl rfl; exact Zev)) | (apply lW; first | apply W.seq | apply W.region | apply W.block | apply W.skip | (refine Zbg ?_)))
   all_goals first | exact BadS.ofC hst1 hs Zo
 ·rw [mayP_no c5] at e
  cases e
  repeat' (first | (apply gL; first | (apply Wl.ev rfl rfl; exact Zev) | (refine Zf8 ?_) | (refine lC 28 98 ?_; first | (refine Zk1 ?_; intro q hq; clear hq q) | (refine Zk4 ?_; intro q hq; clear hq q)) | apply Wl.nil | (refine Zbd ?_; intro b) | (apply wl_buildSlice rfl rfl (slT rfl) (szT rfl) (zeroT rfl) rfl Zf6 rfl; exact Zt; intro b)) | (apply gQ; first | (apply Wq.ev rfl rfl; exact Zev)) | (apply lW; first | apply W.seq | apply W.region | apply W.block | (refine Zbk ?_) | (refine Zba ?_; intro w hs)))
  all_goals first | exact GivesS.ofC hst1 hs t ⟨hok, rfl⟩ rfl Zo
end Go.Proofs.YtbinaeemcidicaaGreatDoor
