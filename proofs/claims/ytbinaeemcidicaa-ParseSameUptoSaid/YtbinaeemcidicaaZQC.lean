/- Walks: a statement by its first word. No condition. -/
import Derived.Test.YtbinaeemcidicaaZPY
import Derived.Test.YtbinaeemcidicaaZPZ
namespace Go.Proofs.Ytbinaeemcidicaa
open Go.PB Go.RowKit
attribute [local irreducible] Go.Calls
theorem gen_ok {G : List Ti → Rp} {F : FuncId} {vs : List Value} (ih : GenC G F vs) {M : List Nat} {w0 w : World} {H : List Ent} {K : List Ent → List Ent} {TR : List Ent} {r a : Nat} {lv : Value} {L l l' : List Ti} {ps : List Pt}
    (hst : St M w0 w H) (e : G l = some (some ps, l')) (hl : At L a l) (hu : UpdT H r (rdP lv a) (rdP lv (L.length - l'.length)) K) (hT : TokE TR r lv L) (hm : ∀ p ∈ TR, p ∈ H) : Calls Try.prog F (ptr r :: vs).toArray w (GivesS (fun t : Tn => ptr t.b) (fun t => tnOk t ∧ tnP t = hdP ps) M w0 (fun t => K (tnH t))) := ih hst hu hT hm hl e
theorem gen_bad {G : List Ti → Rp} {F : FuncId} {vs : List Value} (ih : GenC G F vs) {M : List Nat} {w0 w : World} {H : List Ent} {K : List Ent → List Ent} {TR : List Ent} {r a : Nat} {lv : Value} {L l l' : List Ti}
    (hst : St M w0 w H) (e : G l = some (none, l')) (hl : At L a l) (hu : UpdT H r (rdP lv a) (rdP lv (L.length - l'.length)) K) (hT : TokE TR r lv L) (hm : ∀ p ∈ TR, p ∈ H) : Calls Try.prog F (ptr r :: vs).toArray w (BadS wrongC M w0 (K [])) := ih hst hu hT hm hl e
abbrev stmW : List (List UInt8) := [[123], [105, 102], [102, 111, 114], [114, 101, 116, 117, 114, 110], [100, 105, 115, 99, 97, 114, 100], [59]]
theorem isA_six (t : Ti) : isA stmW t = (isA [[123]] t || (isA [[105, 102]] t || (isA [[102, 111, 114]] t || (isA [[114, 101, 116, 117, 114, 110]] t || (isA [[100, 105, 115, 99, 97, 114, 100]] t || isA [[59]] t))))) := by
  unfold isA
  generalize (decide (t.k = 4) || decide (t.k = 1)) = q
  cases q <;> simp
set_option maxRecDepth 100000 in
set_option maxHeartbeats 16000000 in
theorem stmt_hd {f : Nat} (ihb : NodeC f .blk 65 []) (ihl : NodeC f .loop 86 []) (ihe : NodeC f .expr 67 []) (ihs : NodeC f .stmt 79 [])
    {M : List Nat} {w0 w : World} {H : List Ent} {K : List Ent → List Ent} {TR : List Ent} {r a : Nat} {lv : Value} {L l l' : List Ti} {o : Option (List Pt)}
    (hst : St M w0 w H) (hu : UpdT H r (rdP lv a) (rdP lv (L.length - l'.length)) K) (hT : TokE TR r lv L) (hm : ∀ p ∈ TR, p ∈ H) (hl : At L a l) (e : pF (f + 1) .stmt l = some (o, l')) (hw : isA stmW (l.headD ti0) = true) :
    Calls Try.prog 79 #[ptr r] w (NodeR o M w0 K) := by
  have hla : a ≤ L.length := hl.1
  (obtain ⟨A, p1, p2⟩ := hu.front; have hTA : ∀ e ∈ TR, e ∈ A := fun e he => mem_front p1 (hm e he) (hT.2.1 e he); have hst1 := hst.perm p1; have hlim := hT.2.2.1)
  rw [pF] at e
  have ihc : GenC (chP f) 85 [] := choice_step ihe ihs
  rcases may_cases [[123]] l with ⟨t, l1, rfl, c1⟩ | c1
  rw [mayP_yes c1] at e
  rcases o with _ | ps
  rotate_left 2
  rw [mayP_no c1] at e
  rcases may_cases [[105, 102]] l with ⟨t, l1, rfl, c2⟩ | c2
  rw [mayP_yes c2] at e
  have e' : chP f (t :: l1) = some (o, l') := by
    unfold chP
    rw [tkP_ok c2]
    exact e
  clear e
  rcases o with _ | ps
  rotate_left 2
  rw [mayP_no c2] at e
  rcases may_cases [[102, 111, 114]] l with ⟨t, l1, rfl, c3⟩ | c3
  rw [mayP_yes c3] at e
  rcases o with _ | ps
  rotate_left 2
  rw [mayP_no c3] at e
  rcases may_cases [[114, 101, 116, 117, 114, 110]] l with ⟨t, l1, rfl, c4⟩ | c4
  rw [mayP_yes c4] at e
  have a1 := hl.next
  rcases may_cases [[59]] l1 with ⟨t5, l5, rfl, c5⟩ | c5
  rw [mayP_yes c5] at e
  have a2 := a1.next
  cases e
  rw [← a2.len] at p2
  rotate_left
  rw [mayP_no c5] at e
  rcases bnd_cases e with ⟨e6, rfl⟩ | ⟨ps, l6, e6, e⟩
  rotate_left
  have a6 := a1.step e6
  rcases tk_cases (isA [[59]]) l6 with ⟨t7, l7, rfl, c7⟩ | c7
  rw [tkP_ok c7] at e
  have a7 := a6.next
  cases e
  rw [← a7.len] at p2
  rotate_left
  rw [tkP_bad c7] at e
  cases e
  rotate_left
  rw [mayP_no c4] at e
  rcases may_cases [[100, 105, 115, 99, 97, 114, 100]] l with ⟨t, l1, rfl, c5⟩ | c5
  rw [mayP_yes c5] at e
  have a1 := hl.next
  rcases tk_cases (isA [[59]]) l1 with ⟨t6, l6, rfl, c6⟩ | c6
  rw [tkP_ok c6] at e
  have a2 := a1.next
  cases e
  rw [← a2.len] at p2
  rotate_left
  rw [tkP_bad c6] at e
  cases e
  rw [← a1.len] at p2
  replace p2 : ∀ T, List.Perm (K T) (⟨r, true, row [lv, .int .i64 ((a : Int) + 1)] 60⟩ :: (A ++ T)) := p2
  rotate_left
  rw [mayP_no c5] at e
  rcases may_cases [[59]] l with ⟨t, l1, rfl, c6⟩ | c6
  rw [mayP_yes c6] at e
  have a1 := hl.next
  cases e
  rw [← a1.len] at p2
  replace p2 : ∀ T, List.Perm (K T) (⟨r, true, row [lv, .int .i64 ((a : Int) + 1)] 60⟩ :: (A ++ T)) := p2
  rotate_left
  · rw [isA_six, c1, c2, c3, c4, c5, c6] at hw
    cases hw
  all_goals ((refine calls_of_W (vs := [ptr r]) Try.func79 rfl Try.ntmps79 (Nat.le_of_ble_eq_true rfl) hst1.fromHere ?_; simp only [argL]); (repeat' (first | (apply gL; first | (apply Wl.ev rfl rfl; (focus (first | exact ev_move rfl | (apply gLoa; first | exact ev_load (agT rfl) rfl (by repeat (first | exact List.Mem.head _ | apply List.Mem.tail)) rfl | exact ev_loadWhole (agT rfl) (szT rfl) rfl (by repeat (first | exact List.Mem.head _ | apply List.Mem.tail)) rfl | (apply ev_loadAgg (agT rfl) (szT rfl) rfl (by repeat (first | exact List.Mem.head _ | apply List.Mem.tail)); (focus (simp; rfl)); (focus rfl))) | (apply gFie; first | exact ev_fieldAddr0 (fldT rfl) rfl | exact ev_fieldAddr (fldT rfl) rfl) | exact ev_assign rfl | (apply gPic; first | exact ev_pickT rfl rfl | exact ev_pickF rfl rfl) | (apply gBin; first | exact ev_add64 rfl rfl (by omega) | exact ev_addK rfl rfl (by first | exact wrap64_in (by omega) | exact IntWalk.u8_in _ (by omega) | exact IntWalk.i32_in _ (by omega)) | exact ev_cat rfl rfl (by (first | omega | (simp; omega))) | exact ev_add rfl rfl) | (apply gUn; first | exact ev_notT rfl | exact ev_notF rfl | exact ev_notD rfl | exact ev_notB rfl | exact ev_neg64 rfl (by omega) | exact ev_neg rfl) | exact ev_extract rfl rfl | (apply gNil; first | exact ev_nilCheck_ptr rfl | exact ev_nilCheck_func rfl)))) | ((show Wl _ _ _ _ _ _ _ (⟨some 3, .alloc _, _, _, _, _⟩ :: _) _ _); refine wl_alloc rfl rfl (zeroT rfl) ?_; intro b3) | ((show Wl _ _ _ _ _ _ _ (⟨some 52, .buildSlice _ _ _, _, _, _, _⟩ :: _) _ _); apply wl_buildSlice rfl rfl (slT rfl) (szT rfl) (zeroT rfl) rfl (by decide) rfl; (focus (simp [fillP, List.range_succ]; rfl)); intro kb) | (refine wl_storeWhole rfl rfl rfl (szT rfl) (by repeat (first | rfl | refine all_one_cons ?_ ?_)) (by repeat (first | exact Upd.here | apply Upd.there)) (by rfl) ?_) | ((show Wl _ _ _ _ _ _ _ (⟨some 9, .call ⟨.value (.func 46), _, _⟩, _, _, _, _⟩ :: _) _ _); refine wl_call0 rfl rfl has46 rfl (fun w hs => ppk0 hs (by repeat (first | exact List.Mem.head _ | apply List.Mem.tail)) hT (by intro p hp; repeat (first | exact hTA p hp | apply List.Mem.tail | apply List.mem_append_left)) (by assumption)) ?_) | ((show Wl _ _ _ _ _ _ _ (⟨some 13, .call ⟨.value (.func 50), _, _⟩, _, _, _, _⟩ :: _) _ _); refine wl_call0 rfl rfl has50 rfl (fun w hs => pis (s := [[123]]) hs (by repeat (first | exact List.Mem.head _ | apply List.Mem.tail)) (by assumption) rfl (by decide)) ?_) | ((show Wl _ _ _ _ _ _ _ (⟨some 19, .call ⟨.value (.func 50), _, _⟩, _, _, _, _⟩ :: _) _ _); refine wl_call0 rfl rfl has50 rfl (fun w hs => pis (s := [[105, 102]]) hs (by repeat (first | exact List.Mem.head _ | apply List.Mem.tail)) (by assumption) rfl (by decide)) ?_) | ((show Wl _ _ _ _ _ _ _ (⟨some 25, .call ⟨.value (.func 50), _, _⟩, _, _, _, _⟩ :: _) _ _); refine wl_call0 rfl rfl has50 rfl (fun w hs => pis (s := [[102, 111, 114]]) hs (by repeat (first | exact List.Mem.head _ | apply List.Mem.tail)) (by assumption) rfl (by decide)) ?_) | ((show Wl _ _ _ _ _ _ _ (⟨some 31, .call ⟨.value (.func 50), _, _⟩, _, _, _, _⟩ :: _) _ _); refine wl_call0 rfl rfl has50 rfl (fun w hs => pis (s := [[114, 101, 116, 117, 114, 110]]) hs (by repeat (first | exact List.Mem.head _ | apply List.Mem.tail)) (by assumption) rfl (by decide)) ?_) | ((show Wl _ _ _ _ _ _ _ (⟨some 61, .call ⟨.value (.func 50), _, _⟩, _, _, _, _⟩ :: _) _ _); refine wl_call0 rfl rfl has50 rfl (fun w hs => pis (s := [[100, 105, 115, 99, 97, 114, 100]]) hs (by repeat (first | exact List.Mem.head _ | apply List.Mem.tail)) (by assumption) rfl (by decide)) ?_) | ((show Wl _ _ _ _ _ _ _ (⟨some 76, .call ⟨.value (.func 50), _, _⟩, _, _, _, _⟩ :: _) _ _); refine wl_call0 rfl rfl has50 rfl (fun w hs => pis (s := [[59]]) hs (by repeat (first | exact List.Mem.head _ | apply List.Mem.tail)) (by assumption) rfl (by decide)) ?_) | ((show Wl _ _ _ _ _ _ _ (⟨some 15, .call ⟨.value (.func 65), _, _⟩, _, _, _, _⟩ :: _) _ _); first | (refine wl_callS rfl rfl has65 rfl (fun w hs => node_ok ihb hs (by assumption) (by assumption) (by repeat (first | exact UpdT.here | apply UpdT.there)) hT (by intro p hp; repeat (first | exact hTA p hp | apply List.Mem.tail | apply List.mem_append_left))) ?_; rintro n1 ⟨hok1, hp1⟩) | (refine wl_callB0 rfl has65 rfl (fun w hs => node_bad ihb hs (by assumption) (by assumption) (by repeat (first | exact UpdT.here | apply UpdT.there)) hT (by intro p hp; repeat (first | exact hTA p hp | apply List.Mem.tail | apply List.mem_append_left))) ?_; (first | refine bad_end ?_ | refine bad_endM ?_); intro w hs)) | ((show Wl _ _ _ _ _ _ _ (⟨some 27, .call ⟨.value (.func 86), _, _⟩, _, _, _, _⟩ :: _) _ _); first | (refine wl_callS rfl rfl has86 rfl (fun w hs => node_ok ihl hs (by assumption) (by assumption) (by repeat (first | exact UpdT.here | apply UpdT.there)) hT (by intro p hp; repeat (first | exact hTA p hp | apply List.Mem.tail | apply List.mem_append_left))) ?_; rintro n1 ⟨hok1, hp1⟩) | (refine wl_callB0 rfl has86 rfl (fun w hs => node_bad ihl hs (by assumption) (by assumption) (by repeat (first | exact UpdT.here | apply UpdT.there)) hT (by intro p hp; repeat (first | exact hTA p hp | apply List.Mem.tail | apply List.mem_append_left))) ?_; (first | refine bad_end ?_ | refine bad_endM ?_); intro w hs)) | ((show Wl _ _ _ _ _ _ _ (⟨some 51, .call ⟨.value (.func 67), _, _⟩, _, _, _, _⟩ :: _) _ _); first | (refine wl_callS rfl rfl has67 rfl (fun w hs => node_ok ihe hs (by assumption) (by assumption) (by repeat (first | exact UpdT.here | apply UpdT.there)) hT (by intro p hp; repeat (first | exact hTA p hp | apply List.Mem.tail | apply List.mem_append_left))) ?_; rintro n1 ⟨hok1, hp1⟩) | (refine wl_callB0 rfl has67 rfl (fun w hs => node_bad ihe hs (by assumption) (by assumption) (by repeat (first | exact UpdT.here | apply UpdT.there)) hT (by intro p hp; repeat (first | exact hTA p hp | apply List.Mem.tail | apply List.mem_append_left))) ?_; (first | refine bad_end ?_ | refine bad_endM ?_); intro w hs)) | ((show Wl _ _ _ _ _ _ _ (⟨some 21, .call ⟨.value (.func 85), _, _⟩, _, _, _, _⟩ :: _) _ _); first | (refine wl_callS rfl rfl has85 rfl (fun w hs => gen_ok ihc hs (by assumption) (by assumption) (by repeat (first | exact UpdT.here | apply UpdT.there)) hT (by intro p hp; repeat (first | exact hTA p hp | apply List.Mem.tail | apply List.mem_append_left))) ?_; rintro n1 ⟨hok1, hp1⟩) | (refine wl_callB0 rfl has85 rfl (fun w hs => gen_bad ihc hs (by assumption) (by assumption) (by repeat (first | exact UpdT.here | apply UpdT.there)) hT (by intro p hp; repeat (first | exact hTA p hp | apply List.Mem.tail | apply List.mem_append_left))) ?_; refine bad_end ?_; intro w hs)) | ((show Wl _ _ _ _ _ _ _ (⟨some 44, .call ⟨.value (.func 66), _, _⟩, _, _, _, _⟩ :: _) _ _); first | (refine wl_callS rfl rfl has66 rfl (fun w hs => pmay_yes (s := [[59]]) hs (by repeat (first | exact List.Mem.head _ | apply List.Mem.tail)) (by repeat (first | exact Upd.here | apply Upd.there)) hT (by intro p hp; repeat (first | exact hTA p hp | apply List.Mem.tail | apply List.mem_append_left)) (by assumption) (by assumption) rfl (by decide)) ?_; intro q hq; clear hq q) | (refine wl_callS rfl rfl has66 rfl (fun w hs => pmay_no (s := [[59]]) hs (by repeat (first | exact List.Mem.head _ | apply List.Mem.tail)) (by repeat (first | exact List.Mem.head _ | apply List.Mem.tail)) hT (by intro p hp; repeat (first | exact hTA p hp | apply List.Mem.tail | apply List.mem_append_left)) (by assumption) (by assumption) rfl (by decide)) ?_; intro q hq; clear hq q)) | ((show Wl _ _ _ _ _ _ _ (⟨some 40, .call ⟨.value (.func 61), _, _⟩, _, _, _, _⟩ :: _) _ _); refine wl_callS rfl rfl has61 rfl (fun w hs => pmade hs _ _ _ _ _ _) ?_; intro bn hq; clear hq) | ((show Wl _ _ _ _ _ _ _ (⟨some 72, .call ⟨.value (.func 61), _, _⟩, _, _, _, _⟩ :: _) _ _); refine wl_callS rfl rfl has61 rfl (fun w hs => pmade hs _ _ _ _ _ _) ?_; intro bn hq; clear hq) | ((show Wl _ _ _ _ _ _ _ (⟨some 85, .call ⟨.value (.func 61), _, _⟩, _, _, _, _⟩ :: _) _ _); refine wl_callS rfl rfl has61 rfl (fun w hs => pmade hs _ _ _ _ _ _) ?_; intro bn hq; clear hq) | ((show Wl _ _ _ _ _ _ _ (⟨some 56, .call ⟨.value (.func 62), _, _⟩, _, _, _, _⟩ :: _) _ _); first | (refine wl_callS rfl rfl has62 rfl (fun w hs => psg_ok hs (by repeat (first | exact Upd.here | apply Upd.there)) hT (by intro p hp; repeat (first | exact hTA p hp | apply List.Mem.tail | apply List.mem_append_left)) (by assumption) (by assumption)) ?_; intro q hq; clear hq q) | (refine wl_callB0 rfl has62 rfl (fun w hs => psg_bad hs (by repeat (first | exact List.Mem.head _ | apply List.Mem.tail)) hT (by intro p hp; repeat (first | exact hTA p hp | apply List.Mem.tail | apply List.mem_append_left)) (by assumption) (by assumption)) ?_; (first | refine bad_end ?_ | refine bad_endM ?_); intro w hs)) | ((show Wl _ _ _ _ _ _ _ (⟨some 70, .call ⟨.value (.func 62), _, _⟩, _, _, _, _⟩ :: _) _ _); first | (refine wl_callS rfl rfl has62 rfl (fun w hs => psg_ok hs (by repeat (first | exact Upd.here | apply Upd.there)) hT (by intro p hp; repeat (first | exact hTA p hp | apply List.Mem.tail | apply List.mem_append_left)) (by assumption) (by assumption)) ?_; intro q hq; clear hq q) | (refine wl_callB0 rfl has62 rfl (fun w hs => psg_bad hs (by repeat (first | exact List.Mem.head _ | apply List.Mem.tail)) hT (by intro p hp; repeat (first | exact hTA p hp | apply List.Mem.tail | apply List.mem_append_left)) (by assumption) (by assumption)) ?_; (first | refine bad_end ?_ | refine bad_endM ?_); intro w hs)) | apply Wl.nil | (refine Wl.skip rfl rfl ?_) | (refine Wl.skip0 rfl ?_) | (refine wl_alloc rfl rfl (zeroT rfl) ?_; intro b) | (refine wl_storeWhole rfl rfl rfl (szT rfl) rfl (by repeat (first | exact Upd.here | apply Upd.there)) (by rfl) ?_) | (refine wl_store1 rfl rfl rfl rfl (szT rfl) (by repeat (first | exact Upd.here | apply Upd.there)) (by first | decide | (simp; done)) ?_; try simp only [List.set]) | (apply wl_buildSlice rfl rfl (slT rfl) (szT rfl) (zeroT rfl) rfl (by decide) rfl; (focus (simp [fillP, List.range_succ]; rfl)); intro b) | ((fail_if_success (apply Wl.chk rfl)); refine Wl.split rfl rfl ?_ ?_ <;> (intro h; try (exfalso; first | contradiction | omega | exact h rfl | exact h ⟨rfl, rfl⟩ | (exact Bool.false_ne_true ((by assumption : _ = false).symm.trans h)) | (exact Bool.false_ne_true (h.symm.trans (by assumption)))))) | ((fail_if_success (apply Wl.chk rfl)); refine Wl.splitB rfl rfl ?_ ?_ <;> (intro h; try (exfalso; first | contradiction | (exact Bool.false_ne_true ((by assumption : _ = false).symm.trans h)) | (exact Bool.false_ne_true (h.symm.trans (by assumption))))))) | (apply gQ; first | (apply Wq.ev rfl rfl; (focus (first | exact ev_move rfl | (apply gLoa; first | exact ev_load (agT rfl) rfl (by repeat (first | exact List.Mem.head _ | apply List.Mem.tail)) rfl | exact ev_loadWhole (agT rfl) (szT rfl) rfl (by repeat (first | exact List.Mem.head _ | apply List.Mem.tail)) rfl | (apply ev_loadAgg (agT rfl) (szT rfl) rfl (by repeat (first | exact List.Mem.head _ | apply List.Mem.tail)); (focus (simp; rfl)); (focus rfl))) | (apply gFie; first | exact ev_fieldAddr0 (fldT rfl) rfl | exact ev_fieldAddr (fldT rfl) rfl) | exact ev_assign rfl | (apply gPic; first | exact ev_pickT rfl rfl | exact ev_pickF rfl rfl) | (apply gBin; first | exact ev_add64 rfl rfl (by omega) | exact ev_addK rfl rfl (by first | exact wrap64_in (by omega) | exact IntWalk.u8_in _ (by omega) | exact IntWalk.i32_in _ (by omega)) | exact ev_cat rfl rfl (by (first | omega | (simp; omega))) | exact ev_add rfl rfl) | (apply gUn; first | exact ev_notT rfl | exact ev_notF rfl | exact ev_notD rfl | exact ev_notB rfl | exact ev_neg64 rfl (by omega) | exact ev_neg rfl) | exact ev_extract rfl rfl | (apply gNil; first | exact ev_nilCheck_ptr rfl | exact ev_nilCheck_func rfl)))) | apply Wq.nil | (refine Wq.skip rfl rfl ?_) | ((fail_if_success (apply Wq.chk rfl)); refine Wq.split rfl rfl ?_ ?_ <;> (intro h; try (exfalso; first | contradiction | omega | exact h rfl | exact h ⟨rfl, rfl⟩ | (exact Bool.false_ne_true ((by assumption : _ = false).symm.trans h)) | (exact Bool.false_ne_true (h.symm.trans (by assumption)))))) | ((fail_if_success (apply Wq.chk rfl)); refine Wq.splitB rfl rfl ?_ ?_ <;> (intro h; try (exfalso; first | contradiction | (exact Bool.false_ne_true ((by assumption : _ = false).symm.trans h)) | (exact Bool.false_ne_true (h.symm.trans (by assumption))))))) | ((show W _ _ _ _ _ _ _ _ _); first | apply W.seq | (refine W.regionQ mixed (by kernel_rfl) ?_) | apply W.region | apply W.block | apply W.blk | apply W.skip | apply W.scp | apply W.label | apply W.scope0 | (refine W.exit rfl ?_) | (refine W.condT rfl ?_) | (refine W.condF rfl ?_) | (refine W.cond rfl ?_ ?_ <;> (intro h; try (exfalso; first | contradiction | omega | exact h rfl | exact h ⟨rfl, rfl⟩ | (exact Bool.false_ne_true ((by assumption : _ = false).symm.trans h)) | (exact Bool.false_ne_true (h.symm.trans (by assumption)))))) | (refine W.condB rfl ?_ ?_ <;> (intro h; try (exfalso; first | contradiction | (exact Bool.false_ne_true ((by assumption : _ = false).symm.trans h)) | (exact Bool.false_ne_true (h.symm.trans (by assumption)))))) | (refine W.ret1 rfl rfl ?_; intro w hs)))); all_goals first | exact BadS.ofC hst1 hs (by intro e; rw [(p2 _).count_eq]; simp only [List.count_append, cnt_cons, List.count_nil]; omega) | exact GivesS.ofC hst1 hs n1 ⟨hok1, hp1⟩ rfl (by intro e; rw [(p2 _).count_eq]; simp only [List.count_append, cnt_cons]; omega) | (simp only [row_nd, List.headD_cons] at hs; exact node_leaf hst1 hs (by intro e; rw [(p2 _).count_eq]; simp only [List.count_append, cnt_cons, List.count_nil]; omega)) | (simp only [row_nd, List.headD_cons] at hs; exact node_new (kb := kb) (n := 1) hst1 hs [n1] _ (tnsOk1 hok1) (by simp only [tnsP, hp1]) rfl (show 1 ≤ 1000 by decide) (by intro e; rw [(p2 _).count_eq]; simp only [tnsH, List.append_nil, List.map_cons, List.map_nil, List.count_append, cnt_cons]; omega)) | contradiction | fail)
end Go.Proofs.Ytbinaeemcidicaa
