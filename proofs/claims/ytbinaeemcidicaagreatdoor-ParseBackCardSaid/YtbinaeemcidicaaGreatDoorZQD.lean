/- Walks: a statement by its first word. No condition. -/
import Derived.Test.YtbinaeemcidicaaGreatDoorZPY
import Derived.Test.YtbinaeemcidicaaGreatDoorZPZ
set_option maxRecDepth 100000
set_option maxHeartbeats 16000000
namespace Go.Proofs.YtbinaeemcidicaaGreatDoor
open Go.PB Go.RowKit
attribute [local irreducible] Go.Calls
theorem gen_ok {G : List Ti → Rp} {F : FuncId} {vs : List Value} (ih : GenC G F vs) {M : List Nat} {w0 w : World} {H : List Ent} {K : List Ent → List Ent} {TR : List Ent} {r a : Nat} {lv : Value} {L l l' : List Ti} {ps : List Pt}
  (hst : St M w0 w H) (e : G l = some (some ps, l')) (hl : At L a l) (hu : UpdT H r (rdP lv a) (rdP lv (L.length - l'.length)) K) (hT : TokE TR r lv L) (hm : ∀ p ∈ TR, p ∈ H) : Calls Tryz.prog F (ptr r :: vs).toArray w (GivesS (fun t : Tn => ptr t.b) (fun t => tnOk t ∧ tnP t = hdP ps) M w0 (fun t => K (tnH t))) := ih hst hu hT hm hl e
theorem gen_bad {G : List Ti → Rp} {F : FuncId} {vs : List Value} (ih : GenC G F vs) {M : List Nat} {w0 w : World} {H : List Ent} {K : List Ent → List Ent} {TR : List Ent} {r a : Nat} {lv : Value} {L l l' : List Ti}
  (hst : St M w0 w H) (e : G l = some (none, l')) (hl : At L a l) (hu : UpdT H r (rdP lv a) (rdP lv (L.length - l'.length)) K) (hT : TokE TR r lv L) (hm : ∀ p ∈ TR, p ∈ H) : Calls Tryz.prog F (ptr r :: vs).toArray w (BadS wrongC M w0 (K [])) := ih hst hu hT hm hl e
abbrev stmW : List (List UInt8) := [[123], [105, 102], [102, 111, 114], [114, 101, 116, 117, 114, 110], [100, 105, 115, 99, 97, 114, 100], [59]]
theorem isA_six (t : Ti) : isA stmW t = (isA [[123]] t || (isA [[105, 102]] t || (isA [[102, 111, 114]] t || (isA [[114, 101, 116, 117, 114, 110]] t || (isA [[100, 105, 115, 99, 97, 114, 100]] t || isA [[59]] t))))) := by
 unfold isA
 generalize (decide (t.k = 4) || decide (t.k = 1)) = q
 cases q <;> simp
theorem stmt_hd {f : Nat} (ihb : NodeC f .blk 97 []) (ihl : NodeC f .loop 163 []) (ihe : NodeC f .expr 99 []) (ihs : NodeC f .stmt 135 [])
  {M : List Nat} {w0 w : World} {H : List Ent} {K : List Ent → List Ent} {TR : List Ent} {r a : Nat} {lv : Value} {L l l' : List Ti} {o : Option (List Pt)}
  (hst : St M w0 w H) (hu : UpdT H r (rdP lv a) (rdP lv (L.length - l'.length)) K) (hT : TokE TR r lv L) (hm : ∀ p ∈ TR, p ∈ H) (hl : At L a l) (e : pF (f + 1) .stmt l = some (o, l')) (hw : isA stmW (l.headD ti0) = true) :
  Calls Tryz.prog 135 #[ptr r] w (NodeR o M w0 K) := by
 have hla : a ≤ L.length := hl.1
 (obtain ⟨A, p1, p2⟩ := hu.front; have hTA : ∀ e ∈ TR, e ∈ A := fun e he => mem_front p1 (hm e he) (hT.2.1 e he); have hst1 := hst.perm p1; have hlim := hT.2.2.1)
 rw [pF] at e
 have ihc : GenC (chP f) 162 [] := choice_step ihe ihs
 rcases may_cases [[123]] l with ⟨t, l1, rfl, c1⟩ | c1
 rw [mayP_yes c1] at e
 rcases o with _ | ps
 rotate_left 2
 rw [mayP_no c1] at e
 rcases may_cases [[105, 102]] l with ⟨t, l1, rfl, c2⟩ | c2
 rw [mayP_yes c2] at e
 have e' : chP f (t :: l1) = some (o, l') := by
  unfold chP
  rw [tkP_ok c2]
  exact e
 clear e
 rcases o with _ | ps
 rotate_left 2
 rw [mayP_no c2] at e
 rcases may_cases [[102, 111, 114]] l with ⟨t, l1, rfl, c3⟩ | c3
 rw [mayP_yes c3] at e
 rcases o with _ | ps
 rotate_left 2
 rw [mayP_no c3] at e
 rcases may_cases [[114, 101, 116, 117, 114, 110]] l with ⟨t, l1, rfl, c4⟩ | c4
 rw [mayP_yes c4] at e
 have a1 := hl.next
 rcases may_cases [[59]] l1 with ⟨t5, l5, rfl, c5⟩ | c5
 rw [mayP_yes c5] at e
 have a2 := a1.next
 cases e
 rw [← a2.len] at p2
 rotate_left
 rw [mayP_no c5] at e
 rcases bnd_cases e with ⟨e6, rfl⟩ | ⟨ps, l6, e6, e⟩
 rotate_left
 have a6 := a1.step e6
 rcases tk_cases (isA [[59]]) l6 with ⟨t7, l7, rfl, c7⟩ | c7
 rw [tkP_ok c7] at e
 have a7 := a6.next
 cases e
 rw [← a7.len] at p2
 rotate_left
 rw [tkP_bad c7] at e
 cases e
 rotate_left
 rw [mayP_no c4] at e
 rcases may_cases [[100, 105, 115, 99, 97, 114, 100]] l with ⟨t, l1, rfl, c5⟩ | c5
 rw [mayP_yes c5] at e
 have a1 := hl.next
 rcases tk_cases (isA [[59]]) l1 with ⟨t6, l6, rfl, c6⟩ | c6
 rw [tkP_ok c6] at e
 have a2 := a1.next
 cases e
 rw [← a2.len] at p2
 rotate_left
 rw [tkP_bad c6] at e
 cases e
 rw [← a1.len] at p2
 replace p2 : ∀ T, List.Perm (K T) (⟨r, true, row [lv, .int .i64 ((a : Int) + 1)] 75⟩ :: (A ++ T)) := p2
 rotate_left
 rw [mayP_no c5] at e
 rcases may_cases [[59]] l with ⟨t, l1, rfl, c6⟩ | c6
 rw [mayP_yes c6] at e
 have a1 := hl.next
 cases e
 rw [← a1.len] at p2
 replace p2 : ∀ T, List.Perm (K T) (⟨r, true, row [lv, .int .i64 ((a : Int) + 1)] 75⟩ :: (A ++ T)) := p2
 rotate_left
 ·rw [isA_six, c1, c2, c3, c4, c5, c6] at hw
  cases hw
 all_goals ((refine Zem ?_; simp only [argL]); (repeat' (first | (apply gL; first | (apply Wl.ev rfl rfl; exact Zev) | (refine lA 3 ?_; refine wl_alloc rfl rfl (zeroT rfl) ?_; intro b3) | ((show Wl _ _ _ _ _ _ _ (⟨some 52, .buildSlice _ _ _, _, _, _, _⟩ :: _) _ _); apply wl_buildSlice rfl rfl (slT rfl) (szT rfl) (zeroT rfl) rfl Zf6 rfl; exact Zt; intro kb) | (refine Zf8 ?_) | (refine lC 9 55 ?_; refine wl_call0 rfl rfl has55 rfl Ziz ?_) | (refine lC 13 60 ?_; refine wl_call0 rfl rfl has60 rfl Zlz ?_) | (refine lC 19 60 ?_; refine wl_call0 rfl rfl has60 rfl Zlv ?_) | (refine lC 25 60 ?_; refine wl_call0 rfl rfl has60 rfl Zlq ?_) | (refine lC 31 60 ?_; refine wl_call0 rfl rfl has60 rfl Zk0 ?_) | (refine lC 61 60 ?_; refine wl_call0 rfl rfl has60 rfl Zkx ?_) | (refine lC 76 60 ?_; refine wl_call0 rfl rfl has60 rfl Zl0 ?_) | (refine lC 15 97 ?_; first | (refine Zlx ?_; rintro n1 ⟨hok1, hp1⟩) | (refine Zly ?_; (first | refine bad_end ?_ | refine bad_endM ?_); intro w hs)) | (refine lC 27 163 ?_; first | (refine wl_callS rfl rfl has163 rfl (fun w hs => node_ok ihl hs Zf5 Zf5 Zh hT Zc) ?_; rintro n1 ⟨hok1, hp1⟩) | (refine wl_callB0 rfl has163 rfl (fun w hs => node_bad ihl hs Zf5 Zf5 Zh hT Zc) ?_; (first | refine bad_end ?_ | refine bad_endM ?_); intro w hs)) | (refine lC 51 99 ?_; first | (refine Zhz ?_; rintro n1 ⟨hok1, hp1⟩) | (refine Zh1 ?_; (first | refine bad_end ?_ | refine bad_endM ?_); intro w hs)) | (refine lC 21 162 ?_; first | (refine wl_callS rfl rfl has162 rfl (fun w hs => gen_ok ihc hs Zf5 Zf5 Zh hT Zc) ?_; rintro n1 ⟨hok1, hp1⟩) | (refine wl_callB0 rfl has162 rfl (fun w hs => gen_bad ihc hs Zf5 Zf5 Zh hT Zc) ?_; refine bad_end ?_; intro w hs)) | (refine lC 44 98 ?_; first | (refine wl_callS rfl rfl has98 rfl (fun w hs => pmay_yes (s := [[59]]) hs Zd Zf hT Zc Zf5 Zf5 rfl Zf6) ?_; intro q hq; clear hq q) | (refine wl_callS rfl rfl has98 rfl (fun w hs => pmay_no (s := [[59]]) hs Zd Zd hT Zc Zf5 Zf5 rfl Zf6) ?_; intro q hq; clear hq q)) | (refine lC 40 93 ?_; refine wl_callS rfl rfl has93 rfl Zbm ?_; intro bn hq; clear hq) | (refine lC 72 93 ?_; refine wl_callS rfl rfl has93 rfl Zbm ?_; intro bn hq; clear hq) | (refine lC 85 93 ?_; refine wl_callS rfl rfl has93 rfl Zbm ?_; intro bn hq; clear hq) | (refine lC 56 94 ?_; first | (refine Zho ?_; intro q hq; clear hq q) | (refine Zhp ?_; (first | refine bad_end ?_ | refine bad_endM ?_); intro w hs)) | (refine lC 70 94 ?_; first | (refine Zho ?_; intro q hq; clear hq q) | (refine Zhp ?_; (first | refine bad_end ?_ | refine bad_endM ?_); intro w hs)) | apply Wl.nil | (refine Zbr ?_) | (refine Wl.skip0 rfl ?_) | (refine Zbd ?_; intro b) | (refine Zgb ?_) | (refine Zf9 ?_; try simp only [List.set]) | (apply wl_buildSlice rfl rfl (slT rfl) (szT rfl) (zeroT rfl) rfl Zf6 rfl; exact Zt; intro b) | ((fail_if_success (apply Wl.chk rfl)); refine Wl.split rfl rfl ?_ ?_ <;> (intro h; try exact Za)) | ((fail_if_success (apply Wl.chk rfl)); refine Wl.splitB rfl rfl ?_ ?_ <;> (intro h; try exact Zb2))) | (apply gQ; first | (apply Wq.ev rfl rfl; exact Zev) | apply Wq.nil | (refine Zek ?_) | ((fail_if_success (apply Wq.chk rfl)); refine Wq.split rfl rfl ?_ ?_ <;> (intro h; try exact Za)) | ((fail_if_success (apply Wq.chk rfl)); refine Wq.splitB rfl rfl ?_ ?_ <;> (intro h; try exact Zb2))) | (apply lW; first | apply W.seq | (refine Zgf ?_) | apply W.region | apply W.block | apply W.blk | apply W.skip | apply W.scp | apply W.label | apply W.scope0 | (refine Zcm ?_) | (refine Zbk ?_) | (refine Zbg ?_) | (refine Zz ?_ ?_ <;> (intro h; try exact Za)) | (refine Zfs ?_ ?_ <;> (intro h; try exact Zb2)) | (refine Zba ?_; intro w hs)))); all_goals first | exact BadS.ofC hst1 hs Zo | exact GivesS.ofC hst1 hs n1 ⟨hok1, hp1⟩ rfl Zo | (simp only [row_nd, List.headD_cons] at hs; exact node_leaf hst1 hs Zo) | (simp only [row_nd, List.headD_cons] at hs; exact node_new (kb := kb) (n := 1) hst1 hs [n1] _ (tnsOk1 hok1) (by simp only [tnsP, hp1]) rfl (show 1 ≤ 1000 by decide) Zb5) | contradiction | fail)
end Go.Proofs.YtbinaeemcidicaaGreatDoor
namespace Go.Proofs.YtbinaeemcidicaaGreatDoor
open Go.PB Go.RowKit
attribute [local irreducible] Go.Calls
theorem expr_case {l : List Ti} {A B : Rp} : (typedT (l.headD ti0) = true ∧ isA [[40]] ((l.drop 1).headD ti0) = false ∧ (if typedT (l.headD ti0) = true ∧ ¬isA [[40]] ((l.drop 1).headD ti0) = true then A else B) = A) ∨
  (typedT (l.headD ti0) = true ∧ isA [[40]] ((l.drop 1).headD ti0) = true ∧ (if typedT (l.headD ti0) = true ∧ ¬isA [[40]] ((l.drop 1).headD ti0) = true then A else B) = B) ∨
  (typedT (l.headD ti0) = false ∧ (if typedT (l.headD ti0) = true ∧ ¬isA [[40]] ((l.drop 1).headD ti0) = true then A else B) = B) := by
 cases h1 : typedT (l.headD ti0) with
 | false => exact .inr (.inr ⟨rfl, by rw [if_neg Zgh]⟩)
 | true =>
  cases h2 : isA [[40]] ((l.drop 1).headD ti0) with
  | false => exact .inl ⟨rfl, rfl, by rw [if_pos Zgh]⟩
  | true => exact .inr (.inl ⟨rfl, rfl, by rw [if_neg Zgh]⟩)
theorem stmt_ex {f : Nat} (ihe : NodeC f .expr 99 [])
  {M : List Nat} {w0 w : World} {H : List Ent} {K : List Ent → List Ent} {TR : List Ent} {r a : Nat} {lv : Value} {L l l' : List Ti} {o : Option (List Pt)}
  (hst : St M w0 w H) (hu : UpdT H r (rdP lv a) (rdP lv (L.length - l'.length)) K) (hT : TokE TR r lv L) (hm : ∀ p ∈ TR, p ∈ H) (hl : At L a l)
  (e : (bndP (pF f .expr l) fun ps l' => tkP (isA [[59]]) l' fun _ l' => okP [.mk 11 [] [] 0 (l.headD ti0).a [hdP ps]] l') = some (o, l'))
  (c1 : isA [[123]] (l.headD ti0) = false) (c2 : isA [[105, 102]] (l.headD ti0) = false) (c3 : isA [[102, 111, 114]] (l.headD ti0) = false) (c4 : isA [[114, 101, 116, 117, 114, 110]] (l.headD ti0) = false) (c5 : isA [[100, 105, 115, 99, 97, 114, 100]] (l.headD ti0) = false) (c6 : isA [[59]] (l.headD ti0) = false) (c7 : isA [[99, 111, 110, 115, 116]] (l.headD ti0) = false)
  (hc : (typedT (l.headD ti0) = true ∧ isA [[40]] ((l.drop 1).headD ti0) = true) ∨ typedT (l.headD ti0) = false) :
  Calls Tryz.prog 135 #[ptr r] w (NodeR o M w0 K) := by
 have hla : a ≤ L.length := hl.1
 (obtain ⟨A, p1, p2⟩ := hu.front; have hTA : ∀ e ∈ TR, e ∈ A := fun e he => mem_front p1 (hm e he) (hT.2.1 e he); have hst1 := hst.perm p1; have hlim := hT.2.2.1)
 rcases bnd_cases e with ⟨e6, rfl⟩ | ⟨ps, l6, e6, e⟩
 rotate_left
 have a6 := hl.step e6
 rcases tk_cases (isA [[59]]) l6 with ⟨t7, l7, rfl, c10⟩ | c10
 rw [tkP_ok c10] at e
 have a7 := a6.next
 cases e
 rw [← a7.len] at p2
 rotate_left
 rw [tkP_bad c10] at e
 cases e
 all_goals (rcases hc with ⟨c8, c9⟩ | c8)
 all_goals ((refine Zem ?_; simp only [argL]); (repeat' (first | (apply gL; first | (apply Wl.ev rfl rfl; exact Zev) | (refine lA 3 ?_; refine wl_alloc rfl rfl (zeroT rfl) ?_; intro b3) | ((show Wl _ _ _ _ _ _ _ (⟨some 128, .buildSlice _ _ _, _, _, _, _⟩ :: _) _ _); apply wl_buildSlice rfl rfl (slT rfl) (szT rfl) (zeroT rfl) rfl Zf6 rfl; exact Zt; intro kb) | (refine Zf8 ?_) | (refine lC 9 55 ?_; refine wl_call0 rfl rfl has55 rfl Ziz ?_) | (refine lC 109 55 ?_; refine wl_call0 rfl rfl has55 rfl Zl9 ?_) | (refine lC 106 58 ?_; refine wl_call0 rfl rfl has58 rfl (fun w hs => pty w Zf5) ?_) | (refine lC 13 60 ?_; refine wl_call0 rfl rfl has60 rfl Zlz ?_) | (refine lC 19 60 ?_; refine wl_call0 rfl rfl has60 rfl Zlv ?_) | (refine lC 25 60 ?_; refine wl_call0 rfl rfl has60 rfl Zlq ?_) | (refine lC 31 60 ?_; refine wl_call0 rfl rfl has60 rfl Zk0 ?_) | (refine lC 61 60 ?_; refine wl_call0 rfl rfl has60 rfl Zkx ?_) | (refine lC 76 60 ?_; refine wl_call0 rfl rfl has60 rfl Zl0 ?_) | (refine lC 89 60 ?_; refine wl_call0 rfl rfl has60 rfl Zma ?_) | (refine lC 111 60 ?_; refine wl_call0 rfl rfl has60 rfl Zht ?_) | (refine lC 127 99 ?_; first | (refine Zhz ?_; rintro n1 ⟨hok1, hp1⟩) | (refine Zh1 ?_; (first | refine bad_end ?_ | refine bad_endM ?_); intro w hs)) | (refine lC 129 93 ?_; refine wl_callS rfl rfl has93 rfl Zbm ?_; intro bn hq; clear hq) | (refine lC 131 94 ?_; first | (refine Zho ?_; intro q hq; clear hq q) | (refine Zhp ?_; (first | refine bad_end ?_ | refine bad_endM ?_); intro w hs)) | apply Wl.nil | (refine Zbr ?_) | (apply wl_buildSlice rfl rfl (slT rfl) (szT rfl) (zeroT rfl) rfl Zf6 rfl; exact Zt; intro b)) | (apply gQ; first | (apply Wq.ev rfl rfl; exact Zev)) | (apply lW; first | apply W.seq | ((show W _ _ _ _ _ _ (.inl (.region 29 _ true) :: _) _ _); refine W.regionM [] [⟨b3, true, row (tiC (l.headD ti0)) 67⟩] [⟨b3, true, row (tiC (l.headD ti0)) 67⟩] mixed ?_) | apply W.region | apply W.block | apply W.blk | apply W.skip | (refine Zbg ?_) | (refine Zba ?_; intro w hs)) | ((show Wm _ _ _ _ _ _ _ _ _ _ _ _ _ _ _ _); first | ((refine Zgg ?_)) | (refine Zgq ?_) | (refine Zgs ?_) | (refine Zhs ?_) | (refine Ziy ?_) | (refine Zim ?_) | ((fail_if_success (refine Zbn ?_)); (refine Zgc ?_ ?_ <;> (intro h; try exact Za))) | ((fail_if_success (refine Zbn ?_)); (refine Zga ?_ ?_ <;> (intro h; try exact Za))) | apply Wm.next) | apply AllO.nil | apply AllO.cons | (refine Or.inl Zk) | ((show _ ∨ Wl _ _ _ _ _ _ _ _ _ _); apply Or.inr) | (refine Zgt ?_))); all_goals first | exact BadS.ofC hst1 hs Zo | exact node_new (kb := kb) (n := 1) hst1 hs [n1] _ (tnsOk1 hok1) (by simp only [tnsP, hp1]) rfl (show 1 ≤ 1000 by decide) Zb5 | contradiction | fail)
theorem stmt_step {f : Nat} (ihb : NodeC f .blk 97 []) (ihl : NodeC f .loop 163 []) (ihe : NodeC f .expr 99 []) (ihs : NodeC f .stmt 135 [])
  (ihd : ∀ (t0 t9 : Ti) (tx : List UInt8), NodeC f (.decl t0.a t9.t tx) 62 [tiV t0, tiV t9, st tx]) : NodeC (f + 1) .stmt 135 [] := by
 intro M w0 w H K TR r a lv L l l' o hst hu hT hm hl e
 cases hw : isA stmW (l.headD ti0) with
 | true => exact stmt_hd ihb ihl ihe ihs hst hu hT hm hl e hw
 | false =>
 rw [isA_six] at hw
 simp only [Bool.or_eq_false_iff] at hw
 obtain ⟨c1, c2, c3, c4, c5, c6⟩ := hw
 have hla : a ≤ L.length := hl.1
 (obtain ⟨A, p1, p2⟩ := hu.front; have hTA : ∀ e ∈ TR, e ∈ A := fun e he => mem_front p1 (hm e he) (hT.2.1 e he); have hst1 := hst.perm p1; have hlim := hT.2.2.1)
 rw [pF, mayP_no c1, mayP_no c2, mayP_no c3, mayP_no c4, mayP_no c5, mayP_no c6] at e
 rcases may_cases [[99, 111, 110, 115, 116]] l with ⟨t, l1, rfl, c7⟩ | c7
 rw [mayP_yes c7] at e
 have a1 := hl.next
 rcases tk_cases typedT l1 with ⟨u, l2, rfl, c8⟩ | c8
 rw [tkP_ok c8] at e
 have a2 := a1.next
 rcases o with _ | ps
 rotate_left 2
 rw [tkP_bad c8] at e
 cases e
 rw [← a1.len] at p2
 replace p2 : ∀ T, List.Perm (K T) (⟨r, true, row [lv, .int .i64 ((a : Int) + 1)] 75⟩ :: (A ++ T)) := p2
 rotate_left
 rw [mayP_no c7] at e
 rcases expr_case (l := l) with ⟨c8, c9, h⟩ | ⟨c8, c9, h⟩ | ⟨c8, h⟩
 rw [h] at e
 clear h
 have a1 : At L (a + 1) (l.drop 1) := by
  cases l with
  | nil => cases c8
  | cons t l => exact hl.next
 rcases o with _ | ps
 rotate_left 2
 ·exact stmt_ex ihe hst hu hT hm hl (h ▸ e) c1 c2 c3 c4 c5 c6 c7 (.inl ⟨c8, c9⟩)
 ·exact stmt_ex ihe hst hu hT hm hl (h ▸ e) c1 c2 c3 c4 c5 c6 c7 (.inr c8)
 all_goals ((refine Zem ?_; simp only [argL]); (repeat' (first | (apply gL; first | (apply Wl.ev rfl rfl; exact Zev) | (refine lA 3 ?_; refine wl_alloc rfl rfl (zeroT rfl) ?_; intro b3) | (refine Zf8 ?_) | (refine lC 9 55 ?_; refine wl_call0 rfl rfl has55 rfl Ziz ?_) | (refine lC 109 55 ?_; refine wl_call0 rfl rfl has55 rfl Zl9 ?_) | (refine lC 106 58 ?_; refine wl_call0 rfl rfl has58 rfl (fun w hs => pty w Zf5) ?_) | (refine lC 13 60 ?_; refine wl_call0 rfl rfl has60 rfl Zlz ?_) | (refine lC 19 60 ?_; refine wl_call0 rfl rfl has60 rfl Zlv ?_) | (refine lC 25 60 ?_; refine wl_call0 rfl rfl has60 rfl Zlq ?_) | (refine lC 31 60 ?_; refine wl_call0 rfl rfl has60 rfl Zk0 ?_) | (refine lC 61 60 ?_; refine wl_call0 rfl rfl has60 rfl Zkx ?_) | (refine lC 76 60 ?_; refine wl_call0 rfl rfl has60 rfl Zl0 ?_) | (refine lC 89 60 ?_; refine wl_call0 rfl rfl has60 rfl Zma ?_) | (refine lC 111 60 ?_; refine wl_call0 rfl rfl has60 rfl Zht ?_) | (refine lC 103 62 ?_; first | (refine wl_callS rfl rfl has62 rfl (fun w hs => node_ok (ihd _ _ _) hs Zf5 Zf5 Zh hT Zc) ?_; rintro n1 ⟨hok1, hp1⟩) | (refine wl_callB0 rfl has62 rfl (fun w hs => node_bad (ihd _ _ _) hs Zf5 Zf5 Zh hT Zc) ?_; (first | refine bad_end ?_ | refine bad_endM ?_); intro w hs)) | (refine lC 124 62 ?_; first | (refine wl_callS rfl rfl has62 rfl (fun w hs => node_ok (ihd (l.headD ti0) (l.headD ti0) []) hs Zf5 Zf5 Zh hT Zc) ?_; rintro n1 ⟨hok1, hp1⟩) | (refine wl_callB0 rfl has62 rfl (fun w hs => node_bad (ihd (l.headD ti0) (l.headD ti0) []) hs Zf5 Zf5 Zh hT Zc) ?_; (first | refine bad_end ?_ | refine bad_endM ?_); intro w hs)) | (refine lC 100 57 ?_; first | (refine Zi0 ?_; intro q hq; clear hq q) | (refine Zi3 ?_; (first | refine bad_end ?_ | refine bad_endM ?_); intro w hs)) | apply Wl.nil | (refine Zf9 ?_; try simp only [List.set]) | (apply wl_buildSlice rfl rfl (slT rfl) (szT rfl) (zeroT rfl) rfl Zf6 rfl; exact Zt; intro b)) | (apply gQ; first | (apply Wq.ev rfl rfl; exact Zev)) | (apply lW; first | apply W.seq | ((show W _ _ _ _ _ _ (.inl (.region 25 _ true) :: _) _ _); refine W.regionM [] [⟨b3, true, row (tiC t) 67⟩] [⟨b3, true, row (tiC t) 67⟩] mixed ?_) | apply W.region | apply W.block | (refine Zbk ?_) | (refine Zbg ?_) | (refine Zba ?_; intro w hs)) | ((show Wm _ _ _ _ _ _ _ _ _ _ _ _ _ _ _ _); first | ((refine Zgg ?_)) | (refine Zgq ?_) | (refine Zgs ?_) | (refine Zhs ?_) | (refine Ziy ?_) | (refine Zim ?_) | ((fail_if_success (refine Zbn ?_)); (refine Zgc ?_ ?_ <;> (intro h; try exact Za))) | ((fail_if_success (refine Zbn ?_)); (refine Zga ?_ ?_ <;> (intro h; try exact Za))) | apply Wm.next) | apply AllO.nil | apply AllO.cons | (refine Or.inl Zk) | ((show _ ∨ Wl _ _ _ _ _ _ _ _ _ _); apply Or.inr) | (refine Zgt ?_))); all_goals first | exact BadS.ofC hst1 hs Zo | exact GivesS.ofC hst1 hs n1 ⟨hok1, hp1⟩ rfl Zo | contradiction | fail)
end Go.Proofs.YtbinaeemcidicaaGreatDoor
