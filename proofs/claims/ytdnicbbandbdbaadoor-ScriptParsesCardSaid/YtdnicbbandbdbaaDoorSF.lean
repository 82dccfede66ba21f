/- Walks: numbers, bytes, quoted texts as they are written. No condition but the listed tables that the library reads. -/
import Derived.Test.YtdnicbbandbdbaaDoorSE
namespace Go.Proofs.YtdnicbbandbdbaaDoor
open Go.PB Go.RowKit
attribute [local irreducible] Go.Calls
theorem dig_len : ∀ (k n : Nat), n < 10 ^ (k + 1) → Lib.nDigits n ≤ k + 1
  | 0, n, h => by rw [Lib.nDigits_small (by omega)]; omega
  | k + 1, n, h => by
    by_cases h1 : n < 10
    · rw [Lib.nDigits_small h1]; omega
    · rw [Lib.nDigits_big h1]
      have := dig_len k (n / 10) (by rw [Nat.pow_succ] at h; omega)
      omega
def inI64 (n : Int) : Prop := -9223372036854775808 ≤ n ∧ n ≤ 9223372036854775807
theorem itoa_len20 {n : Int} (h : inI64 n) : (Lib.itoa n).length ≤ 20 := by
  unfold inI64 at h
  unfold Lib.itoa
  split
  · rw [List.length_cons, Lib.decDigits_length]
    have := dig_len 18 n.natAbs (by omega)
    omega
  · rw [Lib.decDigits_length]
    have := dig_len 18 n.toNat (by omega)
    omega
/-- numbers so far -/
def numL (l : List UInt8) (is : List Int) (j : Nat) : List UInt8 := l ++ (is.take j).flatMap fun n => 32 :: Lib.itoa n
theorem numL_succ {l : List UInt8} {is : List Int} {j : Nat} (hj : j < is.length) : numL l is (j + 1) = numL l is j ++ 32 :: Lib.itoa (is.getD j 0) := by
  unfold numL
  rw [List.take_succ_eq_append_getElem hj, List.flatMap_append, ← List.append_assoc]
  simp [List.getD, hj]
theorem numL_len {l : List UInt8} {is : List Int} (h : ∀ n ∈ is, inI64 n) (j : Nat) : (numL l is j).length ≤ l.length + 21 * is.length := by
  unfold numL
  have := flat_len' (fun n => 32 :: Lib.itoa n) 21 (is.take j) fun n hn => by
    have := itoa_len20 (h n (List.mem_of_mem_take hn))
    simp only [List.length_cons]
    omega
  rw [List.length_append]
  have h2 : (is.take j).length ≤ is.length := by simp; omega
  omega
theorem getD_all {α : Type} {l : List α} {d : α} {P : α → Prop} (h : ∀ a ∈ l, P a) {j : Nat} (hj : j < l.length) : P (l.getD j d) := h _ (getD_mem hj)
def hexM (l bs : List UInt8) (j : Nat) : List UInt8 := l ++ hexS (bs.take j)
theorem hexM_succ {l bs : List UInt8} {j : Nat} (hj : j < bs.length) : hexM l bs (j + 1) = hexM l bs j ++ hexB (bs.getD j 0) := by
  unfold hexM hexS
  rw [List.take_succ_eq_append_getElem hj, List.flatMap_append, ← List.append_assoc]
  simp [List.getD, hj]
theorem hexM_len (l bs : List UInt8) (j : Nat) : (hexM l bs j).length ≤ l.length + 2 * bs.length := by
  unfold hexM
  rw [List.length_append, hexS_len]
  have : (bs.take j).length ≤ bs.length := by simp; omega
  omega
set_option maxRecDepth 100000 in
set_option maxHeartbeats 4000000 in
theorem numbers_ok {M : List Nat} {w0 w : World} {A : List Ent} {b : Nat} {p : Value} {o : Ow} {l : List UInt8} {iv bv : Value} {is : List Int} {bs : List UInt8} (hiv : RdX A iv is.length (intV is)) (hbv : RdX A bv bs.length (bytV bs)) (his : ∀ n ∈ is, inI64 n)
    (hil : is.length ≤ 1000000) (hbl : bs.length ≤ 1000000) (hok : wrOk b p l o) (hl : l.length ≤ 500000000) (hst : St M w0 w (wrH 68 b p l o A)) (lb : Lb w) (lo : Low (wrs (wrH 68 b p l o A))) :
    Calls Tryd.prog 34 #[ptr b, iv, bv] w (GivesS (fun _ : Value × Ow => .tuple #[]) (fun q => wrOk b q.1 (l ++ numsS is bs) q.2) M w0 (fun q => wrH 68 b q.1 (l ++ numsS is bs) q.2 A)) := by
  obtain ⟨p1, c1, rfl⟩ := hiv.len
  obtain ⟨p2, c2, rfl⟩ := hbv.len
  refine calls_of_W (vs := [ptr b, .slice p1 is.length c1, .slice p2 bs.length c2]) Tryd.func34 rfl Tryd.ntmps34 (Nat.le_of_ble_eq_true rfl) hst.fromHere ?_
  simp only [argL]
  have hnl := numL_len (l := l) his
  repeat' (first | (apply gL; first | (apply Wl.ev rfl rfl; (focus (first | exact ev_move rfl | (apply gCal; first | exact ev_len_slice (slT rfl) rfl)))) | apply Wl.nil) | (apply gQ; first | (apply Wq.ev rfl rfl; (focus (first | exact ev_move rfl | (apply gCal; first | exact ev_len_slice (slT rfl) rfl))))) | ((show W _ _ _ _ _ _ _ _ _); first | apply W.seq | (refine W.loop (X := Nat × Value × Ow) (fun x => [(0, ptr b), (1, .slice p1 is.length c1), (2, .slice p2 bs.length c2), (10, .slice p1 is.length c1), (11, .int .i64 (is.length : Nat)), (12, .int .i64 (x.1 : Nat))]) (fun x => wrH 68 b x.2.1 (numL l is x.1) x.2.2 A) (fun x => x.1 ≤ is.length ∧ wrOk b x.2.1 (numL l is x.1) x.2.2) (fun x => is.length - x.1) (0, p, o) ⟨Nat.zero_le _, by unfold numL; simpa using hok⟩ (by repeat (first | exact SubL.nil | refine SubL.cons rfl ?_)) (by simp only [numL, List.take_zero, List.flatMap_nil, List.append_nil]; exact List.Sublist.refl _) ?_) | apply W.region | apply W.block))
  rintro ⟨j, p, o⟩ ⟨hj, hok⟩
  dsimp only at hj hok ⊢
  have hnj := hnl j
  by_cases hlt : j < is.length
  · obtain ⟨g, off, c, arr, et, fr, wr, he, hm, hcc, hgt⟩ := hiv.pos (by omega)
    cases he
    have g0 := hgt j _ (intV_get hlt)
    have hy64 := getD_all (d := 0) his hlt
    have hsu := numL_succ (l := l) hlt
    obtain ⟨y, hy⟩ : ∃ y, is.getD j 0 = y := ⟨_, rfl⟩
    rw [hy] at g0 hy64 hsu
    have hl20 := itoa_len20 hy64
    repeat' (first | (apply gL; first | (apply Wl.ev rfl rfl; (focus (first | exact ev_move rfl | (apply gLoa; first | exact ev_loadAt (agT rfl) rfl (List.Mem.tail _ (List.mem_append_left _ hm)) (g0 _ (by omega))) | (apply gFie; first | exact ev_fieldAddr0 (fldT rfl) rfl) | exact ev_assign rfl | (apply gBin; first | exact (ev_cat rfl rfl (by simp; omega)).to (show _ = st (32 :: Lib.itoa y) from rfl) | exact ev_lti rfl rfl | exact ev_add64 rfl rfl (by omega)) | (apply gIxA; first | exact ev_indexAddr (slT rfl) (szT rfl) rfl rfl (by omega)) | exact ev_nilCheck_ptr rfl))) | ((show Wl _ _ _ _ _ _ _ (⟨_, .call ⟨.value (.func 33), _, _⟩, _, _, _, _⟩ :: _) _ _); refine wl_callS rfl rfl has33 rfl (fun w hs => wStr bt_w _ (by first | exact Nat.succ_pos _ | omega | (simp; omega)) (by first | omega | (simp only [List.length_cons]; omega) | decide) (by assumption) (by first | omega | (simp; omega)) hs) ?_; intro o2 hok2) | apply Wl.nil) | (apply gQ; first | (apply Wq.ev rfl rfl; (focus (first | exact ev_move rfl | (apply gLoa; first | exact ev_loadAt (agT rfl) rfl (List.Mem.tail _ (List.mem_append_left _ hm)) (g0 _ (by omega))) | (apply gFie; first | exact ev_fieldAddr0 (fldT rfl) rfl) | exact ev_assign rfl | (apply gBin; first | exact (ev_cat rfl rfl (by simp; omega)).to (show _ = st (32 :: Lib.itoa y) from rfl) | exact ev_lti rfl rfl | exact ev_add64 rfl rfl (by omega)) | (apply gIxA; first | exact ev_indexAddr (slT rfl) (szT rfl) rfl rfl (by omega)) | exact ev_nilCheck_ptr rfl))) | ((show Wq _ _ (Qt _ _ _ _) _ _ _ _ [] _ _); apply Wq.tail) | ((show Wq _ _ _ _ _ _ _ (⟨_, .call ⟨.value (.func 61), _, _⟩, _, _, _, _⟩ :: _) _ _); refine Wq.call0 rfl rfl has61 rfl (fun w hs => itoa_ok y hy64.1 hy64.2 w (lb.st hs lo).pw) ?_)) | ((show W _ _ _ _ _ _ _ _ _); first | apply W.seq | ((show W _ _ _ _ _ _ (.inl (.region 3 _ true) :: _) _ _); refine W.regionT 6 mixed (by kernel_rfl) rfl rfl ?_) | apply W.region | apply W.block | apply W.blk | apply W.skip | (refine W.cond rfl ?_ ?_ <;> (intro h; try (exfalso; first | contradiction | omega | exact h rfl | exact h ⟨rfl, rfl⟩ | (simp_all; done))))))
    all_goals first
      | exact W.again (j + 1, ptr b, o2) ⟨hlt, by show wrOk b (ptr b) (numL l is (j + 1)) o2; rw [hsu]; exact hok2⟩ (by show is.length - (j + 1) < is.length - j; omega) (by repeat (first | exact SubL.nil | refine SubL.cons rfl ?_)) (by show SubH (wrH _ b (ptr b) (numL l is (j + 1)) o2 A) _; rw [hsu]; exact List.Sublist.refl _)
      | fail
  · obtain rfl : j = is.length := by omega
    have hN : numL l is is.length = l ++ is.flatMap fun n => 32 :: Lib.itoa n := by unfold numL; rw [List.take_length]
    by_cases hbs : bs = []
    · subst hbs
      have hfin : l ++ numsS is [] = numL l is is.length := by unfold numsS; rw [hN, if_pos rfl, List.append_nil]
      rw [hfin]
      repeat' (first | (apply gL; first | (apply Wl.ev rfl rfl; (focus (first | exact ev_move rfl | (apply gBin; first | exact ev_lti rfl rfl | exact ev_gti rfl rfl) | (apply gCal; first | exact ev_len_slice (slT rfl) rfl)))) | apply Wl.nil) | (apply gQ; first | (apply Wq.ev rfl rfl; (focus (first | exact ev_move rfl | (apply gBin; first | exact ev_lti rfl rfl | exact ev_gti rfl rfl) | (apply gCal; first | exact ev_len_slice (slT rfl) rfl))))) | ((show W _ _ _ _ _ _ _ _ _); first | apply W.seq | apply W.region | apply W.skip | (refine W.exit rfl ?_) | (refine W.condF rfl ?_) | (refine W.cond rfl ?_ ?_ <;> (intro h; try (exfalso; first | contradiction | omega | exact h rfl | exact h ⟨rfl, rfl⟩ | (simp_all; done)))) | (refine W.end0 rfl ?_; intro w hs)))
      all_goals first | exact GivesS.of hst hs (p, o) hok rfl (List.Sublist.refl _) | fail
    · have hbp : 0 < bs.length := List.length_pos_iff.2 hbs
      obtain ⟨L, hL⟩ : ∃ L, numL l is is.length = L := ⟨_, rfl⟩
      have hfin : l ++ numsS is bs = hexM (L ++ [32, 35]) bs bs.length := by
        unfold numsS hexM
        rw [← hL, hN, if_neg hbs, List.take_length]
        simp
      rw [hfin]
      rw [hL] at hok hnj ⊢
      have hhl := hexM_len (L ++ [32, 35]) bs
      simp only [List.length_append, List.length_cons, List.length_nil] at hhl
      repeat' (first | (apply gL; first | (apply Wl.ev rfl rfl; (focus (first | exact ev_move rfl | (apply gFie; first | exact ev_fieldAddr0 (fldT rfl) rfl) | (apply gBin; first | exact ev_lti rfl rfl | exact ev_gti rfl rfl) | (apply gCal; first | exact ev_len_slice (slT rfl) rfl) | exact ev_nilCheck_ptr rfl))) | ((show Wl _ _ _ _ _ _ _ (⟨_, .call ⟨.value (.func 33), _, _⟩, _, _, _, _⟩ :: _) _ _); refine wl_callS rfl rfl has33 rfl (fun w hs => wStr bt_w _ (by first | exact Nat.succ_pos _ | omega | (simp; omega)) (by first | omega | (simp only [List.length_cons]; omega) | decide) (by assumption) (by first | omega | (simp; omega)) hs) ?_; intro o2 hok2) | apply Wl.nil) | (apply gQ; first | (apply Wq.ev rfl rfl; (focus (first | exact ev_move rfl | (apply gFie; first | exact ev_fieldAddr0 (fldT rfl) rfl) | (apply gBin; first | exact ev_lti rfl rfl | exact ev_gti rfl rfl) | (apply gCal; first | exact ev_len_slice (slT rfl) rfl) | exact ev_nilCheck_ptr rfl)))) | ((show W _ _ _ _ _ _ _ _ _); first | apply W.seq | (refine W.loop (X := Nat × Ow) (fun x => [(0, ptr b), (2, .slice p2 bs.length c2), (31, .slice p2 bs.length c2), (32, .int .i64 (bs.length : Nat)), (33, .int .i64 (x.1 : Nat))]) (fun x => wrH 68 b (ptr b) (hexM (L ++ [32, 35]) bs x.1) x.2 A) (fun x => x.1 ≤ bs.length ∧ wrOk b (ptr b) (hexM (L ++ [32, 35]) bs x.1) x.2) (fun x => bs.length - x.1) (0, o2) ⟨Nat.zero_le _, by unfold hexM hexS; simpa using hok2⟩ (by repeat (first | exact SubL.nil | refine SubL.cons rfl ?_)) (by simp only [hexM, hexS, List.take_zero, List.flatMap_nil, List.append_nil]; exact List.Sublist.refl _) ?_) | apply W.region | apply W.block | (refine W.exit rfl ?_) | (refine W.cond rfl ?_ ?_ <;> (intro h; try (exfalso; first | contradiction | omega | exact h rfl | exact h ⟨rfl, rfl⟩ | (simp_all; done))))))
      rintro ⟨i, o3⟩ ⟨hi, hok3⟩
      dsimp only at hi hok3 ⊢
      have hhi := hhl i
      by_cases hlt2 : i < bs.length
      · obtain ⟨g, off, c, arr, et, fr, wr, he, hm, hcc, hgt⟩ := hbv.pos (by omega)
        cases he
        have g0 := hgt i _ (bytV_get hlt2)
        have hsu := hexM_succ (l := L ++ [32, 35]) hlt2
        obtain ⟨y, hy⟩ : ∃ y, bs.getD i 0 = y := ⟨_, rfl⟩
        rw [hy] at g0 hsu
        repeat' (first | (apply gL; first | (apply Wl.ev rfl rfl; (focus (first | exact ev_move rfl | (apply gLoa; first | exact ev_loadAt (agT rfl) rfl (List.Mem.tail _ (List.mem_append_left _ hm)) (g0 _ (by omega))) | exact ev_assign rfl | (apply gBin; first | exact ev_lti rfl rfl | exact ev_add64 rfl rfl (by omega)) | (apply gIxA; first | exact ev_indexAddr (slT rfl) (szT rfl) rfl rfl (by omega))))) | ((show Wl _ _ _ _ _ _ _ (⟨_, .call ⟨.value (.func 62), _, _⟩, _, _, _, _⟩ :: _) _ _); refine wl_callS rfl rfl has62 rfl (fun w hs => byte_ok y hok3 (by omega) hs) ?_; intro o4 hok4) | apply Wl.nil) | (apply gQ; first | (apply Wq.ev rfl rfl; (focus (first | exact ev_move rfl | (apply gLoa; first | exact ev_loadAt (agT rfl) rfl (List.Mem.tail _ (List.mem_append_left _ hm)) (g0 _ (by omega))) | exact ev_assign rfl | (apply gBin; first | exact ev_lti rfl rfl | exact ev_add64 rfl rfl (by omega)) | (apply gIxA; first | exact ev_indexAddr (slT rfl) (szT rfl) rfl rfl (by omega)))))) | ((show W _ _ _ _ _ _ _ _ _); first | apply W.seq | apply W.region | apply W.block | apply W.blk | apply W.skip | (refine W.cond rfl ?_ ?_ <;> (intro h; try (exfalso; first | contradiction | omega | exact h rfl | exact h ⟨rfl, rfl⟩ | (simp_all; done))))))
        all_goals first
          | exact W.again (i + 1, o4) ⟨hlt2, by show wrOk b (ptr b) (hexM (L ++ [32, 35]) bs (i + 1)) o4; rw [hsu]; exact hok4⟩ (by show bs.length - (i + 1) < bs.length - i; omega) (by repeat (first | exact SubL.nil | refine SubL.cons rfl ?_)) (by show SubH (wrH _ b (ptr b) (hexM (L ++ [32, 35]) bs (i + 1)) o4 A) _; rw [hsu]; exact List.Sublist.refl _)
          | fail
      · obtain rfl : i = bs.length := by omega
        repeat' (first | (apply gL; first | (apply Wl.ev rfl rfl; (focus (first | exact ev_lti rfl rfl))) | apply Wl.nil) | (apply gQ; first | (apply Wq.ev rfl rfl; (focus (first | exact ev_lti rfl rfl)))) | ((show W _ _ _ _ _ _ _ _ _); first | apply W.seq | apply W.region | (refine W.exit rfl ?_) | (refine W.cond rfl ?_ ?_ <;> (intro h; try (exfalso; first | contradiction | omega | exact h rfl | exact h ⟨rfl, rfl⟩ | (simp_all; done)))) | (refine W.end0 rfl ?_; intro w hs)))
        all_goals first | exact GivesS.of hst hs (ptr b, o3) hok3 rfl (List.Sublist.refl _) | fail
end Go.Proofs.YtdnicbbandbdbaaDoor
