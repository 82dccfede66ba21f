/- Walks: the document's words; the law ParseWords. No condition but the cell that the library's search reads. -/
import Derived.Test.YtbinaeemcidicaaZQN
namespace Go.Proofs.Ytbinaeemcidicaa
open Go.PB Go.RowKit
attribute [local irreducible] Go.Calls
def refW : List (List UInt8) := [[97, 116, 116, 114, 105, 98, 117, 116, 101], [117, 110, 105, 102, 111, 114, 109], [118, 97, 114, 121, 105, 110, 103], [99, 111, 110, 115, 116], [105, 102], [101, 108, 115, 101], [102, 111, 114], [114, 101, 116, 117, 114, 110], [100, 105, 115, 99, 97, 114, 100], [116, 114, 117, 101], [102, 97, 108, 115, 101], [119, 104, 105, 108, 101], [100, 111], [98, 114, 101, 97, 107], [99, 111, 110, 116, 105, 110, 117, 101], [105, 110], [111, 117, 116], [105, 110, 111, 117, 116], [115, 116, 114, 117, 99, 116], [112, 114, 101, 99, 105, 115, 105, 111, 110]]
theorem res_ref (s : List UInt8) : (refW.contains s || (isTyp s || (decide (s = [108, 111, 119, 112]) || (decide (s = [109, 101, 100, 105, 117, 109, 112]) || decide (s = [104, 105, 103, 104, 112]))))) = isRes s := by
  have hd : ∀ v : List UInt8, decide (s = v) = (s == v) := fun v => by
    cases h : (s == v) with
    | true => exact decide_eq_true (by simpa using h)
    | false => exact decide_eq_false (by simpa using h)
  unfold isRes isQua refW resW quaW
  simp only [hd, List.contains_cons, List.contains_nil, Bool.or_false]
  ac_rfl
abbrev wordsV : Value := .tuple #[.agg (strV typW).toArray, .agg (strV refW).toArray]
set_option maxRecDepth 100000 in
theorem words_ok (w : World) : Calls Try.prog 19 #[] w (Give wordsV w) := by
  refine give_of_W (vs := []) Try.func19 rfl Try.ntmps19 (Nat.le_of_ble_eq_true rfl) (St.nil w []) ?_
  simp only [argL]
  repeat' (first | (apply gL; first | (apply Wl.ev rfl rfl; (focus (first | (apply gBui; first | (apply ev_build (bldT rfl) rfl; simp [fillP]; rfl))))) | (refine wl_storeWhole rfl rfl rfl (szT rfl) (by repeat (first | rfl | refine all_one_cons ?_ ?_)) (by repeat (first | exact Upd.here | apply Upd.there)) (by rfl) ?_) | apply Wl.nil | (refine wl_alloc rfl rfl (zeroT rfl) ?_; intro b)) | (apply gQ; first | (apply Wq.ev rfl rfl; (focus (first | (apply gBui; first | (apply ev_build (bldT rfl) rfl; simp [fillP]; rfl)))))) | ((show W _ _ _ _ _ _ _ _ _); first | apply W.seq | ((show W _ _ _ _ _ _ (.inl .ret :: _) _ _); refine W.retcc rfl rfl (agT rfl) (by repeat (first | exact List.Mem.head _ | apply List.Mem.tail)) (szT rfl) rfl (agT rfl) (by repeat (first | exact List.Mem.head _ | apply List.Mem.tail)) (szT rfl) ?_; intro w hs) | apply W.region))
  all_goals first | exact ret_eq hs rfl | fail
theorem contains_no {s : List UInt8} : ∀ {l : List (List UInt8)}, (∀ a ∈ l, ¬a = s) → l.contains s = false
  | [], _ => rfl
  | a :: l, h => by
    rw [List.contains_cons, contains_no fun b hb => h b (List.Mem.tail _ hb), Bool.or_false]
    simpa using fun e => h a (List.Mem.head _) e.symm
theorem contains_yes {s : List UInt8} {l : List (List UInt8)} {j : Nat} (hj : j < l.length) (h : l.getD j [] = s) : l.contains s = true := by
  rw [List.contains_iff_mem]
  rw [← h]
  simp [List.getD, hj]
set_option maxRecDepth 100000 in
theorem typeR_ok (s : List UInt8) (w : World) : Calls Try.prog 10 #[st s] w (Give (.bool (isTyp s)) w) := by
  refine give_of_W (vs := [st s]) Try.func10 rfl Try.ntmps10 (Nat.le_of_ble_eq_true rfl) (St.nil w []) ?_
  simp only [argL]
  repeat' (first | (apply gL; first | (apply Wl.ev rfl rfl; (focus (first | exact ev_move rfl | (apply gLoa; first | exact ev_loadWhole (agT rfl) (szT rfl) rfl (by repeat (first | exact List.Mem.head _ | apply List.Mem.tail)) rfl) | exact ev_assign rfl | exact ev_extract rfl rfl))) | ((show Wl _ _ _ _ _ _ _ (⟨_, .call ⟨.value (.func 19), _, _⟩, _, _, _, _⟩ :: _) _ _); refine wl_call0 rfl rfl has19 rfl (fun w hs => words_ok w) ?_) | ((show Wl _ _ _ _ _ _ _ (⟨some 3, .alloc _, _, _, _, _⟩ :: _) _ _); refine wl_alloc rfl rfl (zeroT rfl) ?_; intro b3) | ((show Wl _ _ _ _ _ _ _ (⟨some 4, .alloc _, _, _, _, _⟩ :: _) _ _); refine wl_alloc rfl rfl (zeroT rfl) ?_; intro b4) | (refine wl_storeWhole rfl rfl rfl (szT rfl) (by repeat (first | rfl | refine all_one_cons ?_ ?_)) (by repeat (first | exact Upd.here | apply Upd.there)) (by rfl) ?_) | apply Wl.nil) | (apply gQ; first | (apply Wq.ev rfl rfl; (focus (first | exact ev_move rfl | (apply gLoa; first | exact ev_loadWhole (agT rfl) (szT rfl) rfl (by repeat (first | exact List.Mem.head _ | apply List.Mem.tail)) rfl) | exact ev_assign rfl | exact ev_extract rfl rfl)))) | ((show W _ _ _ _ _ _ _ _ _); first | apply W.seq | (refine W.loop (X := Nat) (fun j => [(0, st s), (11, .agg (strV typW).toArray), (12, .int .i64 (j : Nat))]) (fun _ => []) (fun j => j ≤ 14 ∧ ∀ a ∈ typW.take j, ¬a = s) (fun j => 14 - j) 0 ⟨Nat.zero_le _, by simp⟩ (by repeat (first | exact SubL.nil | refine SubL.cons rfl ?_)) (List.nil_sublist _) ?_) | apply W.region | apply W.block))
  rintro j ⟨hj, hall⟩
  by_cases hlt : j < 14
  · have g0 : (strV typW)[((j : Nat) : Int).toNat]? = some (st (typW.getD j [])) := strV_get (l := typW) (j := ((j : Nat) : Int).toNat) hlt
    obtain ⟨y, hy⟩ : ∃ y, typW.getD j [] = y := ⟨_, rfl⟩
    rw [hy] at g0
    repeat' (first | (apply gL; first | (apply Wl.ev rfl rfl; (focus (first | exact ev_move rfl | exact ev_assign rfl | (apply gBin; first | exact ev_eqs rfl rfl | exact ev_lti rfl rfl | exact ev_add64 rfl rfl (by omega)) | (apply gIdx; first | exact ev_index_array (arrT rfl) (agT rfl) (szT rfl) rfl rfl (by omega) g0)))) | apply Wl.nil) | (apply gQ; first | (apply Wq.ev rfl rfl; (focus (first | exact ev_move rfl | exact ev_assign rfl | (apply gBin; first | exact ev_eqs rfl rfl | exact ev_lti rfl rfl | exact ev_add64 rfl rfl (by omega)) | (apply gIdx; first | exact ev_index_array (arrT rfl) (agT rfl) (szT rfl) rfl rfl (by omega) g0))))) | ((show W _ _ _ _ _ _ _ _ _); first | apply W.seq | apply W.region | apply W.block | apply W.blk | apply W.skip | (refine W.cond rfl ?_ ?_ <;> (intro h; try (exfalso; first | contradiction | omega | exact h rfl | exact h ⟨rfl, rfl⟩ | (exact Bool.false_ne_true ((by assumption : _ = false).symm.trans h)) | (exact Bool.false_ne_true (h.symm.trans (by assumption)))))) | (refine W.ret1 rfl rfl ?_; intro w hs)))
    all_goals first
      | exact W.again (j + 1) ⟨hlt, take_snoc_all (d := []) hlt hall (by rw [hy]; assumption)⟩ (by omega) (by repeat (first | exact SubL.nil | refine SubL.cons rfl ?_)) (List.nil_sublist _)
      | exact ret_eq hs (congrArg Value.bool (contains_yes hlt (hy.trans (by assumption))).symm)
      | (exfalso; omega) | fail
  · obtain rfl : j = 14 := by omega
    repeat' (first | (apply gL; first | (apply Wl.ev rfl rfl; (focus (first | exact ev_assign rfl | exact ev_lti rfl rfl))) | apply Wl.nil) | (apply gQ; first | (apply Wq.ev rfl rfl; (focus (first | exact ev_assign rfl | exact ev_lti rfl rfl)))) | ((show W _ _ _ _ _ _ _ _ _); first | apply W.seq | apply W.region | (refine W.exit rfl ?_) | (refine W.condF rfl ?_) | (refine W.ret1 rfl rfl ?_; intro w hs)))
    all_goals first | exact ret_eq hs (congrArg Value.bool (contains_no (l := typW) hall).symm) | (exfalso; omega) | fail
set_option maxRecDepth 100000 in
theorem resvR_ok (s : List UInt8) (w : World) : Calls Try.prog 12 #[st s] w (Give (.bool (isRes s)) w) := by
  rw [← res_ref]
  refine give_of_W (vs := [st s]) Try.func12 rfl Try.ntmps12 (Nat.le_of_ble_eq_true rfl) (St.nil w []) ?_
  simp only [argL]
  repeat' (first | (apply gL; first | (apply Wl.ev rfl rfl; (focus (first | exact ev_move rfl | (apply gLoa; first | exact ev_loadWhole (agT rfl) (szT rfl) rfl (by repeat (first | exact List.Mem.head _ | apply List.Mem.tail)) rfl) | exact ev_assign rfl | exact ev_extract rfl rfl))) | ((show Wl _ _ _ _ _ _ _ (⟨_, .call ⟨.value (.func 19), _, _⟩, _, _, _, _⟩ :: _) _ _); refine wl_call0 rfl rfl has19 rfl (fun w hs => words_ok w) ?_) | ((show Wl _ _ _ _ _ _ _ (⟨some 3, .alloc _, _, _, _, _⟩ :: _) _ _); refine wl_alloc rfl rfl (zeroT rfl) ?_; intro b3) | ((show Wl _ _ _ _ _ _ _ (⟨some 4, .alloc _, _, _, _, _⟩ :: _) _ _); refine wl_alloc rfl rfl (zeroT rfl) ?_; intro b4) | (refine wl_storeWhole rfl rfl rfl (szT rfl) (by repeat (first | rfl | refine all_one_cons ?_ ?_)) (by repeat (first | exact Upd.here | apply Upd.there)) (by rfl) ?_) | apply Wl.nil) | (apply gQ; first | (apply Wq.ev rfl rfl; (focus (first | exact ev_move rfl | (apply gLoa; first | exact ev_loadWhole (agT rfl) (szT rfl) rfl (by repeat (first | exact List.Mem.head _ | apply List.Mem.tail)) rfl) | exact ev_assign rfl | exact ev_extract rfl rfl)))) | ((show W _ _ _ _ _ _ _ _ _); first | apply W.seq | (refine W.loop (X := Nat) (fun j => [(0, st s), (11, .agg (strV refW).toArray), (12, .int .i64 (j : Nat))]) (fun _ => []) (fun j => j ≤ 20 ∧ ∀ a ∈ refW.take j, ¬a = s) (fun j => 20 - j) 0 ⟨Nat.zero_le _, by simp⟩ (by repeat (first | exact SubL.nil | refine SubL.cons rfl ?_)) (List.nil_sublist _) ?_) | apply W.region | apply W.block))
  rintro j ⟨hj, hall⟩
  by_cases hlt : j < 20
  · have g0 : (strV refW)[((j : Nat) : Int).toNat]? = some (st (refW.getD j [])) := strV_get (l := refW) (j := ((j : Nat) : Int).toNat) hlt
    obtain ⟨y, hy⟩ : ∃ y, refW.getD j [] = y := ⟨_, rfl⟩
    rw [hy] at g0
    repeat' (first | (apply gL; first | (apply Wl.ev rfl rfl; (focus (first | exact ev_move rfl | exact ev_assign rfl | (apply gBin; first | exact ev_eqs rfl rfl | exact ev_lti rfl rfl | exact ev_add64 rfl rfl (by omega)) | (apply gIdx; first | exact ev_index_array (arrT rfl) (agT rfl) (szT rfl) rfl rfl (by omega) g0)))) | apply Wl.nil) | (apply gQ; first | (apply Wq.ev rfl rfl; (focus (first | exact ev_move rfl | exact ev_assign rfl | (apply gBin; first | exact ev_eqs rfl rfl | exact ev_lti rfl rfl | exact ev_add64 rfl rfl (by omega)) | (apply gIdx; first | exact ev_index_array (arrT rfl) (agT rfl) (szT rfl) rfl rfl (by omega) g0))))) | ((show W _ _ _ _ _ _ _ _ _); first | apply W.seq | apply W.region | apply W.block | apply W.blk | apply W.skip | (refine W.cond rfl ?_ ?_ <;> (intro h; try (exfalso; first | contradiction | omega | exact h rfl | exact h ⟨rfl, rfl⟩ | (exact Bool.false_ne_true ((by assumption : _ = false).symm.trans h)) | (exact Bool.false_ne_true (h.symm.trans (by assumption)))))) | (refine W.ret1 rfl rfl ?_; intro w hs)))
    all_goals first
      | exact W.again (j + 1) ⟨hlt, take_snoc_all (d := []) hlt hall (by rw [hy]; assumption)⟩ (by omega) (by repeat (first | exact SubL.nil | refine SubL.cons rfl ?_)) (List.nil_sublist _)
      | exact ret_eq hs (congrArg Value.bool (by rw [contains_yes hlt (hy.trans (by assumption)), Bool.true_or]))
      | (exfalso; omega) | fail
  · obtain rfl : j = 20 := by omega
    rw [contains_no (l := refW) hall, Bool.false_or]
    have hq : ∀ w, Calls Try.prog 10 #[st s] w (Give (.bool (isTyp s)) w) := typeR_ok s
    obtain ⟨q, hqq⟩ : ∃ q, isTyp s = q := ⟨_, rfl⟩
    rw [hqq] at hq ⊢
    by_cases h1 : s = [108, 111, 119, 112]
    · rw [decide_eq_true h1]
      repeat' (first | (apply gL; first | (apply Wl.ev rfl rfl; (focus (first | exact ev_move rfl | exact ev_assign rfl | (apply gPic; first | exact ev_pickT rfl rfl | exact ev_pickF rfl rfl) | (apply gBin; first | exact ev_eqs rfl rfl | exact ev_lti rfl rfl)))) | ((show Wl _ _ _ _ _ _ _ (⟨_, .call ⟨.value (.func 10), _, _⟩, _, _, _, _⟩ :: _) _ _); refine wl_call0 rfl rfl has10 rfl (fun w hs => hq w) ?_) | apply Wl.nil | (refine Wl.skip rfl rfl ?_) | ((fail_if_success (apply Wl.chk rfl)); refine Wl.split rfl rfl ?_ ?_ <;> (intro h; try (exfalso; first | contradiction | omega | exact h rfl | exact h ⟨rfl, rfl⟩ | (exact Bool.false_ne_true ((by assumption : _ = false).symm.trans h)) | (exact Bool.false_ne_true (h.symm.trans (by assumption)))))) | ((fail_if_success (apply Wl.chk rfl)); refine Wl.splitB rfl rfl ?_ ?_ <;> (intro h; try (exfalso; first | contradiction | (exact Bool.false_ne_true ((by assumption : _ = false).symm.trans h)) | (exact Bool.false_ne_true (h.symm.trans (by assumption))))))) | (apply gQ; first | (apply Wq.ev rfl rfl; (focus (first | exact ev_move rfl | exact ev_assign rfl | (apply gPic; first | exact ev_pickT rfl rfl | exact ev_pickF rfl rfl) | (apply gBin; first | exact ev_eqs rfl rfl | exact ev_lti rfl rfl))))) | ((show W _ _ _ _ _ _ _ _ _); first | apply W.seq | apply W.region | (refine W.exit rfl ?_) | (refine W.condF rfl ?_) | (refine W.ret1 rfl rfl ?_; intro w hs)))
      all_goals first | exact ret_eq hs (congrArg Value.bool (by simp_all)) | contradiction | (exfalso; omega) | fail
    · rw [decide_eq_false h1]
      by_cases h2 : s = [109, 101, 100, 105, 117, 109, 112]
      · rw [decide_eq_true h2]
        repeat' (first | (apply gL; first | (apply Wl.ev rfl rfl; (focus (first | exact ev_move rfl | exact ev_assign rfl | (apply gPic; first | exact ev_pickT rfl rfl | exact ev_pickF rfl rfl) | (apply gBin; first | exact ev_eqs rfl rfl | exact ev_lti rfl rfl)))) | ((show Wl _ _ _ _ _ _ _ (⟨_, .call ⟨.value (.func 10), _, _⟩, _, _, _, _⟩ :: _) _ _); refine wl_call0 rfl rfl has10 rfl (fun w hs => hq w) ?_) | apply Wl.nil | (refine Wl.skip rfl rfl ?_) | ((fail_if_success (apply Wl.chk rfl)); refine Wl.split rfl rfl ?_ ?_ <;> (intro h; try (exfalso; first | contradiction | omega | exact h rfl | exact h ⟨rfl, rfl⟩ | (exact Bool.false_ne_true ((by assumption : _ = false).symm.trans h)) | (exact Bool.false_ne_true (h.symm.trans (by assumption)))))) | ((fail_if_success (apply Wl.chk rfl)); refine Wl.splitB rfl rfl ?_ ?_ <;> (intro h; try (exfalso; first | contradiction | (exact Bool.false_ne_true ((by assumption : _ = false).symm.trans h)) | (exact Bool.false_ne_true (h.symm.trans (by assumption))))))) | (apply gQ; first | (apply Wq.ev rfl rfl; (focus (first | exact ev_move rfl | exact ev_assign rfl | (apply gPic; first | exact ev_pickT rfl rfl | exact ev_pickF rfl rfl) | (apply gBin; first | exact ev_eqs rfl rfl | exact ev_lti rfl rfl))))) | ((show W _ _ _ _ _ _ _ _ _); first | apply W.seq | apply W.region | (refine W.exit rfl ?_) | (refine W.condF rfl ?_) | (refine W.ret1 rfl rfl ?_; intro w hs)))
        all_goals first | exact ret_eq hs (congrArg Value.bool (by simp_all)) | contradiction | (exfalso; omega) | fail
      · rw [decide_eq_false h2]
        repeat' (first | (apply gL; first | (apply Wl.ev rfl rfl; (focus (first | exact ev_move rfl | exact ev_assign rfl | (apply gPic; first | exact ev_pickT rfl rfl | exact ev_pickF rfl rfl) | (apply gBin; first | exact ev_eqs rfl rfl | exact ev_lti rfl rfl)))) | ((show Wl _ _ _ _ _ _ _ (⟨_, .call ⟨.value (.func 10), _, _⟩, _, _, _, _⟩ :: _) _ _); refine wl_call0 rfl rfl has10 rfl (fun w hs => hq w) ?_) | apply Wl.nil | (refine Wl.skip rfl rfl ?_) | ((fail_if_success (apply Wl.chk rfl)); refine Wl.split rfl rfl ?_ ?_ <;> (intro h; try (exfalso; first | contradiction | omega | exact h rfl | exact h ⟨rfl, rfl⟩ | (exact Bool.false_ne_true ((by assumption : _ = false).symm.trans h)) | (exact Bool.false_ne_true (h.symm.trans (by assumption)))))) | ((fail_if_success (apply Wl.chk rfl)); refine Wl.splitB rfl rfl ?_ ?_ <;> (intro h; try (exfalso; first | contradiction | (exact Bool.false_ne_true ((by assumption : _ = false).symm.trans h)) | (exact Bool.false_ne_true (h.symm.trans (by assumption))))))) | (apply gQ; first | (apply Wq.ev rfl rfl; (focus (first | exact ev_move rfl | exact ev_assign rfl | (apply gPic; first | exact ev_pickT rfl rfl | exact ev_pickF rfl rfl) | (apply gBin; first | exact ev_eqs rfl rfl | exact ev_lti rfl rfl))))) | ((show W _ _ _ _ _ _ _ _ _); first | apply W.seq | apply W.region | (refine W.exit rfl ?_) | (refine W.condF rfl ?_) | (refine W.ret1 rfl rfl ?_; intro w hs)))
        all_goals first | exact ret_eq hs (congrArg Value.bool (by simp_all)) | contradiction | (exfalso; omega) | fail
set_option maxRecDepth 100000 in
theorem wordsLaw_ok (s : List UInt8) (_ : s.length ≤ 9223372036854775807) (w : World) (hm : Mx w) : Calls Try.prog 3 #[st s] w (Give (.bool true) w) := by
  refine give_of_W (vs := [st s]) Try.func3 rfl Try.ntmps3 (Nat.le_of_ble_eq_true rfl) (St.nil w []) ?_
  simp only [argL]
  have h1 := type_ok s
  have h2 := resv_ok s
  have h3 := typeR_ok s
  have h4 := resvR_ok s
  repeat' (first | (apply gL; first | (apply Wl.ev rfl rfl; (focus (first | exact ev_move rfl | exact ev_assign rfl | exact ev_pickT rfl rfl | (apply gBin; first | exact ev_eqb_self (boolT rfl) rfl rfl | exact ev_eqb_self (boolT rfl) rfl rfl) | exact ev_notT rfl))) | ((show Wl _ _ _ _ _ _ _ (⟨_, .call ⟨.value (.func 8), _, _⟩, _, _, _, _⟩ :: _) _ _); refine wl_call0 rfl rfl has8 rfl (fun w hs => wakesP_ok w (hm.st hs (by simp))) ?_) | ((show Wl _ _ _ _ _ _ _ (⟨_, .call ⟨.value (.func 9), _, _⟩, _, _, _, _⟩ :: _) _ _); refine wl_call0 rfl rfl has9 rfl (fun w hs => h1 w) ?_) | ((show Wl _ _ _ _ _ _ _ (⟨_, .call ⟨.value (.func 11), _, _⟩, _, _, _, _⟩ :: _) _ _); refine wl_call0 rfl rfl has11 rfl (fun w hs => h2 w) ?_) | ((show Wl _ _ _ _ _ _ _ (⟨_, .call ⟨.value (.func 10), _, _⟩, _, _, _, _⟩ :: _) _ _); refine wl_call0 rfl rfl has10 rfl (fun w hs => h3 w) ?_) | ((show Wl _ _ _ _ _ _ _ (⟨_, .call ⟨.value (.func 12), _, _⟩, _, _, _, _⟩ :: _) _ _); refine wl_call0 rfl rfl has12 rfl (fun w hs => h4 w) ?_) | apply Wl.nil) | (apply gQ; first | (apply Wq.ev rfl rfl; (focus (first | exact ev_move rfl | exact ev_assign rfl | exact ev_pickT rfl rfl | (apply gBin; first | exact ev_eqb_self (boolT rfl) rfl rfl | exact ev_eqb_self (boolT rfl) rfl rfl) | exact ev_notT rfl)))) | ((show W _ _ _ _ _ _ _ _ _); first | apply W.seq | apply W.region | apply W.skip | (refine W.condF rfl ?_) | (refine W.ret1 rfl rfl ?_; intro w hs)))
  all_goals first | exact ret_eq hs rfl | contradiction | (exfalso; omega) | fail
end Go.Proofs.Ytbinaeemcidicaa
