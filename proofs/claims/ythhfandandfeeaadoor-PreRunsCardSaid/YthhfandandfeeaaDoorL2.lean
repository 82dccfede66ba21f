/- Walks of the program's reader: bytes, runs, its line and place, signs. No condition. -/
import Derived.Test.YthhfandandfeeaaDoorL1
import Derived.Test.YthhfandandfeeaaDoorLS
namespace Go.Proofs.YthhfandandfeeaaDoor
open Go.PB Go.RowKit
attribute [local irreducible] Go.Calls
abbrev by8 (c : UInt8) : Value := .int .u8 (c.toNat : Int)
abbrev fnv (f : Nat) : Value := .func (.func f) #[] #[]
theorem or_low : ∀ n : Nat, n < 256 → IntKind.u8.wrap ((BitVec.ofInt IntKind.u8.bits (n : Int) ||| BitVec.ofInt IntKind.u8.bits 32).toNat : Int) = ((n ||| 32 : Nat) : Int) := by decide +kernel
theorem low_letter : ∀ n : Nat, n < 256 → ((97 ≤ (n ||| 32) ∧ (n ||| 32) ≤ 122) ↔ (97 ≤ n ∧ n ≤ 122) ∨ (65 ≤ n ∧ n ≤ 90)) := by decide +kernel
theorem blank_ok (c : UInt8) (w : World) : Calls Tryd.prog 42 #[by8 c] w (Give (.bool (blB c)) w) := by
  refine give_of_W (vs := [by8 c]) Tryd.func42 rfl Tryd.ntmps42 (Nat.le_of_ble_eq_true rfl) (St.nil w _) ?_
  simp only [argL]
  repeat' (first | (apply gL; first | (apply Wl.ev rfl rfl; (focus (first | exact ev_move rfl | exact ev_assign rfl | (apply gPic; first | exact ev_pickT rfl rfl | exact ev_pickF rfl rfl) | (apply gBin; first | exact ev_eqi rfl rfl | exact ev_lei rfl rfl | exact ev_gei rfl rfl)))) | apply Wl.nil | (refine Wl.skip rfl rfl ?_) | ((fail_if_success (apply Wl.chk rfl)); refine Wl.split rfl rfl ?_ ?_ <;> (intro h; try (exfalso; first | contradiction | omega | exact h rfl | exact h ⟨rfl, rfl⟩ | (simp_all; done))))) | ((show W _ _ _ _ _ _ _ _ _); first | apply W.seq | apply W.region | (refine W.ret1 rfl rfl ?_; intro w hs)))
  all_goals exact ret_eq hs (congrArg Value.bool (Bool.eq_iff_iff.2 (by simp only [decide_eq_true_eq, true_iff, blB_iff]; omega)))
theorem digit_ok (c : UInt8) (w : World) : Calls Tryd.prog 48 #[by8 c] w (Give (.bool (dgB c)) w) := by
  refine give_of_W (vs := [by8 c]) Tryd.func48 rfl Tryd.ntmps48 (Nat.le_of_ble_eq_true rfl) (St.nil w _) ?_
  simp only [argL]
  repeat' (first | (apply gL; first | (apply Wl.ev rfl rfl; (focus (first | exact ev_move rfl | exact ev_assign rfl | (apply gPic; first | exact ev_pickT rfl rfl | exact ev_pickF rfl rfl) | (apply gBin; first | exact ev_lei rfl rfl | exact ev_gei rfl rfl)))) | apply Wl.nil | (refine Wl.skip rfl rfl ?_) | ((fail_if_success (apply Wl.chk rfl)); refine Wl.split rfl rfl ?_ ?_ <;> (intro h; try (exfalso; first | contradiction | omega | exact h rfl | exact h ⟨rfl, rfl⟩ | (simp_all; done))))) | ((show W _ _ _ _ _ _ _ _ _); first | apply W.seq | apply W.region | (refine W.ret1 rfl rfl ?_; intro w hs)))
  all_goals exact ret_eq hs (congrArg Value.bool (Bool.eq_iff_iff.2 (by simp only [decide_eq_true_eq, Bool.false_eq_true, false_iff, dgB_iff]; omega)))
theorem letter_ok (c : UInt8) (w : World) : Calls Tryd.prog 46 #[by8 c] w (Give (.bool (leB c)) w) := by
  refine give_of_W (vs := [by8 c]) Tryd.func46 rfl Tryd.ntmps46 (Nat.le_of_ble_eq_true rfl) (St.nil w _) ?_
  simp only [argL]
  have hc : c.toNat < 256 := c.toNat_lt
  have hl := low_letter c.toNat hc
  obtain ⟨v, hv⟩ : ∃ v, c.toNat ||| 32 = v := ⟨_, rfl⟩
  rw [hv] at hl
  repeat' (first | (apply gL; first | (apply Wl.ev rfl rfl; (focus (first | exact ev_move rfl | exact ev_assign rfl | (apply gPic; first | exact ev_pickT rfl rfl | exact ev_pickF rfl rfl) | (apply gBin; first | exact (ev_or rfl rfl).to (show _ = Value.int .u8 (v : Int) from congrArg (Value.int .u8) (by rw [or_low _ hc, hv])) | exact ev_eqi rfl rfl | exact ev_lei rfl rfl | exact ev_gei rfl rfl)))) | apply Wl.nil | (refine Wl.skip rfl rfl ?_) | ((fail_if_success (apply Wl.chk rfl)); refine Wl.split rfl rfl ?_ ?_ <;> (intro h; try (exfalso; first | contradiction | omega | exact h rfl | exact h ⟨rfl, rfl⟩ | (simp_all; done))))) | ((show W _ _ _ _ _ _ _ _ _); first | apply W.seq | apply W.region | (refine W.ret1 rfl rfl ?_; intro w hs)))
  all_goals exact ret_eq hs (congrArg Value.bool (Bool.eq_iff_iff.2 (by simp only [decide_eq_true_eq, true_iff, leB_iff]; omega)))
theorem word_ok (c : UInt8) (w : World) : Calls Tryd.prog 47 #[by8 c] w (Give (.bool (woB c)) w) := by
  refine give_of_W (vs := [by8 c]) Tryd.func47 rfl Tryd.ntmps47 (Nat.le_of_ble_eq_true rfl) (St.nil w _) ?_
  simp only [argL]
  repeat' (first | (apply gL; first | (apply Wl.ev rfl rfl; (focus (first | exact ev_move rfl | exact ev_assign rfl | (apply gPic; first | exact ev_pickT rfl rfl | exact ev_pickF rfl rfl)))) | ((show Wl _ _ _ _ _ _ _ (⟨_, .call ⟨.value (.func 46), _, _⟩, _, _, _, _⟩ :: _) _ _); refine wl_call0 rfl rfl has46 rfl (fun w _ => letter_ok c w) ?_) | ((show Wl _ _ _ _ _ _ _ (⟨_, .call ⟨.value (.func 48), _, _⟩, _, _, _, _⟩ :: _) _ _); refine wl_call0 rfl rfl has48 rfl (fun w _ => digit_ok c w) ?_) | apply Wl.nil | (refine Wl.skip rfl rfl ?_) | ((fail_if_success (apply Wl.chk rfl)); refine Wl.splitB rfl rfl ?_ ?_ <;> (intro h; try (exfalso; first | contradiction | (simp_all; done))))) | ((show W _ _ _ _ _ _ _ _ _); first | apply W.seq | apply W.region | (refine W.ret1 rfl rfl ?_; intro w hs)))
  all_goals exact ret_eq hs (congrArg Value.bool (by simp [woB, h]))
theorem getB {l : List UInt8} {i : Nat} {x : Int} (h : x = i) : Value.int .u8 ((l.getD x.toNat 0).toNat : Int) = by8 (l.getD i 0) := by subst h; rfl
set_option maxRecDepth 100000 in
theorem run_ok (p : UInt8 → Bool) (f : Nat) (hh : Has Tryd.prog f) (hp : ∀ c w, Calls Tryd.prog f #[by8 c] w (Give (.bool (p c)) w)) (l : List UInt8) (hl : l.length < 4611686018427387904) (w : World) :
    Calls Tryd.prog 41 #[st l, fnv f] w (Give (.int .i64 (runN p l : Nat)) w) := by
  refine give_of_W (vs := [st l, fnv f]) Tryd.func41 rfl Tryd.ntmps41 (Nat.le_of_ble_eq_true rfl) (St.nil w _) ?_
  simp only [argL, Nat.zero_add]
  repeat' (first | (apply gL; first | (apply Wl.ev rfl rfl; (focus (first | exact ev_move rfl | exact ev_assign rfl | (apply gCal; first | exact ev_len_string (strT rfl) rfl)))) | apply Wl.nil) | ((show W _ _ _ _ _ _ _ _ _); first | apply W.seq | apply W.region | apply W.block))
  refine W.loop (X := Nat) (fun i => [(0, st l), (1, fnv f), (7, .int .i64 (l.length : Nat)), (8, .int .i64 (i : Nat))]) (fun _ => [])
    (fun i => i ≤ l.length ∧ ∀ j, j < i → p (l.getD j 0) = true) (fun i => l.length - i) 0 ⟨Nat.zero_le _, fun _ h => absurd h (Nat.not_lt_zero _)⟩ (by repeat (first | exact SubL.nil | refine SubL.cons rfl ?_)) (by repeat (first | exact SubH.nil | apply SubH.keep | apply SubH.drop | exact List.Sublist.refl _)) ?_
  rintro i ⟨hi, hall⟩
  by_cases hlt : i < l.length
  · cases hpi : p (l.getD i 0) with
    | true =>
      repeat' (first | (apply gL; first | (apply Wl.ev rfl rfl; (focus (first | exact ev_move rfl | exact ev_assign rfl | (apply gBin; first | exact ev_lti rfl rfl | exact ev_add64 rfl rfl (by omega)) | exact ev_notT rfl | (apply gIdx; first | exact (ev_index_string (strT rfl) rfl rfl (by omega)).to (show _ = by8 (l.getD i 0) from rfl))))) | (refine wl_callF rfl rfl hh rfl rfl (fun w _ => Give.to (hp (l.getD i 0) w) (congrArg Value.bool hpi)) ?_) | apply Wl.nil) | ((show W _ _ _ _ _ _ _ _ _); first | apply W.seq | (refine W.again (i + 1) ?_ ?_ (by repeat (first | exact SubL.nil | refine SubL.cons rfl ?_)) (by repeat (first | exact SubH.nil | apply SubH.keep | apply SubH.drop | exact List.Sublist.refl _))) | apply W.region | apply W.block | apply W.blk | apply W.skip | (refine W.condF rfl ?_) | (refine W.cond rfl ?_ ?_ <;> (intro h; try (exfalso; first | contradiction | omega | exact h rfl | exact h ⟨rfl, rfl⟩ | (simp_all; done))))))
      · refine ⟨hlt, fun j hj => ?_⟩
        rcases Nat.lt_or_ge j i with h | h
        · exact hall j h
        · rw [show j = i by omega]; exact hpi
      · omega
    | false =>
      repeat' (first | (apply gL; first | (apply Wl.ev rfl rfl; (focus (first | exact ev_move rfl | exact ev_assign rfl | exact ev_lti rfl rfl | exact ev_notF rfl | (apply gIdx; first | exact (ev_index_string (strT rfl) rfl rfl (by omega)).to (show _ = by8 (l.getD i 0) from rfl))))) | (refine wl_callF rfl rfl hh rfl rfl (fun w _ => Give.to (hp (l.getD i 0) w) (congrArg Value.bool hpi)) ?_) | apply Wl.nil) | ((show W _ _ _ _ _ _ _ _ _); first | apply W.seq | apply W.region | apply W.block | apply W.skip | (refine W.condT rfl ?_) | (refine W.cond rfl ?_ ?_ <;> (intro h; try (exfalso; first | contradiction | omega | exact h rfl | exact h ⟨rfl, rfl⟩ | (simp_all; done)))) | (refine W.ret1 rfl rfl ?_; intro w hs)))
      exact ret_eq hs (by rw [runN_at p l i hi hall (fun _ => hpi)])
  · obtain rfl : i = l.length := by omega
    repeat' (first | (apply gL; first | (apply Wl.ev rfl rfl; (focus (first | exact ev_move rfl | exact ev_assign rfl | exact ev_lti rfl rfl | (apply gCal; first | exact ev_len_string (strT rfl) rfl)))) | apply Wl.nil) | ((show W _ _ _ _ _ _ _ _ _); first | apply W.seq | apply W.region | (refine W.exit rfl ?_) | (refine W.cond rfl ?_ ?_ <;> (intro h; try (exfalso; first | contradiction | omega | exact h rfl | exact h ⟨rfl, rfl⟩ | (simp_all; done)))) | (refine W.ret1 rfl rfl ?_; intro w hs)))
    exact ret_eq hs (by rw [runN_at p l l.length (Nat.le_refl _) hall (fun h => absurd h (Nat.lt_irrefl _))])
/-- the reader -/
abbrev rdr (s : List UInt8) (i ln : Nat) : Obj := row [st s, .int .i64 (i : Nat), .int .i64 (ln : Nat)] 62
abbrev ptr (b : Nat) : Value := .pointer (some ⟨b, 0, none⟩)
set_option maxRecDepth 100000 in
theorem peek_ok {s : List UInt8} {i ln b : Nat} (hl : s.length ≤ 1000000) (hi : i ≤ s.length) (n : Nat) (hn : n ≤ 1000000) (w : World) (hr : w.heap[b]? = some (rdr s i ln)) :
    Calls Tryd.prog 43 #[ptr b, .int .i64 (n : Nat)] w (Give (by8 ((s.drop i).getD n 0)) w) := by
  refine give_of_W (vs := [ptr b, .int .i64 (n : Nat)]) Tryd.func43 rfl Tryd.ntmps43 (Nat.le_of_ble_eq_true rfl) (St.read hr []) ?_
  simp only [argL, Nat.zero_add]
  by_cases hlt : i + n < s.length
  · repeat' (first | (apply gL; first | (apply Wl.ev rfl rfl; (focus (first | exact ev_move rfl | (apply gLoa; first | exact ev_load (agT rfl) rfl (by repeat (first | exact List.Mem.head _ | apply List.Mem.tail)) rfl) | (apply gFie; first | exact ev_fieldAddr0 (fldT rfl) rfl) | exact ev_assign rfl | (apply gBin; first | exact ev_lti rfl rfl | exact ev_add64 rfl rfl (by omega)) | (apply gCal; first | exact ev_len_string (strT rfl) rfl) | (apply gIdx; first | exact (ev_index_string (strT rfl) rfl rfl (by omega)).to (show _ = by8 (s.getD (i + n) 0) from getB (by omega))) | exact ev_nilCheck_ptr rfl))) | apply Wl.nil) | (apply gQ; first | (apply Wq.ev rfl rfl; (focus (first | exact ev_move rfl | (apply gLoa; first | exact ev_load (agT rfl) rfl (by repeat (first | exact List.Mem.head _ | apply List.Mem.tail)) rfl) | (apply gFie; first | exact ev_fieldAddr0 (fldT rfl) rfl) | exact ev_assign rfl | (apply gBin; first | exact ev_lti rfl rfl | exact ev_add64 rfl rfl (by omega)) | (apply gCal; first | exact ev_len_string (strT rfl) rfl) | (apply gIdx; first | exact (ev_index_string (strT rfl) rfl rfl (by omega)).to (show _ = by8 (s.getD (i + n) 0) from getB (by omega))) | exact ev_nilCheck_ptr rfl))) | apply Wq.nil) | ((show W _ _ _ _ _ _ _ _ _); first | apply W.seq | (refine W.regionQ mixed (by kernel_rfl) ?_) | apply W.region | (refine W.cond rfl ?_ ?_ <;> (intro h; try (exfalso; first | contradiction | omega | exact h rfl | exact h ⟨rfl, rfl⟩ | (simp_all; done)))) | (refine W.ret1 rfl rfl ?_; intro w hs)))
    exact ret_eq hs (by simp [List.getD, List.getElem?_drop])
  · repeat' (first | (apply gL; first | (apply Wl.ev rfl rfl; (focus (first | exact ev_move rfl | (apply gLoa; first | exact ev_load (agT rfl) rfl (by repeat (first | exact List.Mem.head _ | apply List.Mem.tail)) rfl) | (apply gFie; first | exact ev_fieldAddr0 (fldT rfl) rfl) | exact ev_assign rfl | (apply gBin; first | exact ev_lti rfl rfl | exact ev_add64 rfl rfl (by omega)) | (apply gCal; first | exact ev_len_string (strT rfl) rfl) | exact ev_nilCheck_ptr rfl))) | apply Wl.nil) | (apply gQ; first | (apply Wq.ev rfl rfl; (focus (first | exact ev_move rfl | (apply gLoa; first | exact ev_load (agT rfl) rfl (by repeat (first | exact List.Mem.head _ | apply List.Mem.tail)) rfl) | (apply gFie; first | exact ev_fieldAddr0 (fldT rfl) rfl) | exact ev_assign rfl | (apply gBin; first | exact ev_lti rfl rfl | exact ev_add64 rfl rfl (by omega)) | (apply gCal; first | exact ev_len_string (strT rfl) rfl) | exact ev_nilCheck_ptr rfl))) | apply Wq.nil) | ((show W _ _ _ _ _ _ _ _ _); first | apply W.seq | (refine W.regionQ mixed (by kernel_rfl) ?_) | apply W.region | apply W.skip | (refine W.cond rfl ?_ ?_ <;> (intro h; try (exfalso; first | contradiction | omega | exact h rfl | exact h ⟨rfl, rfl⟩ | (simp_all; done)))) | (refine W.ret1 rfl rfl ?_; intro w hs)))
    exact ret_eq hs (by simp [List.getD, List.getElem?_drop, List.getElem?_eq_none (Nat.le_of_not_lt hlt)])
theorem ctb : CtB Tryd.prog 68 := ⟨_, Tryd.func68, by kernel_rfl, by kernel_rfl, by kernel_rfl, by kernel_rfl⟩
theorem count_ok (l : List UInt8) (c : UInt8) (w : World) : Calls Tryd.prog 51 #[st l, st [c]] w (Give (.int .i64 (l.count c : Nat)) w) := by
  refine give_of_W (vs := [st l, st [c]]) Tryd.func51 rfl Tryd.ntmps51 (Nat.le_of_ble_eq_true rfl) (St.nil w _) ?_
  simp only [argL, Nat.zero_add]
  repeat' (first | (apply gL; first | (apply Wl.ev rfl rfl; (focus (first | exact ev_move rfl | exact ev_assign rfl | exact ev_eqi rfl rfl | (apply gCal; first | exact ev_countByte ctb rfl rfl | exact ev_len_string (strT rfl) rfl) | (apply gIdx; first | exact (ev_index_string (strT rfl) rfl rfl (by simp)).to (show _ = by8 c from rfl))))) | apply Wl.nil) | ((show W _ _ _ _ _ _ _ _ _); first | apply W.seq | apply W.region | apply W.skip | (refine W.condT rfl ?_) | (refine W.condF rfl ?_) | (refine W.ret1 rfl rfl ?_; intro w hs)))
  exact ret_eq hs (by simp [Lib.countByte])
end Go.Proofs.YthhfandandfeeaaDoor
