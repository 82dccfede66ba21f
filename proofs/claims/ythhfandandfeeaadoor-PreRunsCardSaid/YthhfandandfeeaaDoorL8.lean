/- Walks of the document's answer: bytes, blanks and comments, signs. No condition. -/
import Derived.Test.YthhfandandfeeaaDoorL7
namespace Go.Proofs.YthhfandandfeeaaDoor
open Go.PB Go.RowKit
attribute [local irreducible] Go.Calls
theorem blank10_ok (c : UInt8) (w : World) : Calls Tryd.prog 52 #[by8 c] w (Give (.bool (blB c)) w) := by
  refine give_of_W (vs := [by8 c]) Tryd.func52 rfl Tryd.ntmps52 (Nat.le_of_ble_eq_true rfl) (St.nil w _) ?_
  simp only [argL]
  repeat' (first | (apply gL; first | (apply Wl.ev rfl rfl; (focus (first | exact ev_move rfl | exact ev_assign rfl | (apply gPic; first | exact ev_pickT rfl rfl | exact ev_pickF rfl rfl) | (apply gBin; first | exact ev_eqi rfl rfl | exact ev_lei rfl rfl | exact ev_gei rfl rfl)))) | apply Wl.nil | (refine Wl.skip rfl rfl ?_) | ((fail_if_success (apply Wl.chk rfl)); refine Wl.split rfl rfl ?_ ?_ <;> (intro h; try (exfalso; first | contradiction | omega | exact h rfl | exact h ⟨rfl, rfl⟩ | (simp_all; done))))) | ((show W _ _ _ _ _ _ _ _ _); first | apply W.seq | apply W.region | (refine W.ret1 rfl rfl ?_; intro w hs)))
  all_goals exact ret_eq hs (congrArg Value.bool (Bool.eq_iff_iff.2 (by simp only [decide_eq_true_eq, true_iff, blB_iff]; omega)))
theorem digit10_ok (c : UInt8) (w : World) : Calls Tryd.prog 55 #[by8 c] w (Give (.bool (dgB c)) w) := by
  refine give_of_W (vs := [by8 c]) Tryd.func55 rfl Tryd.ntmps55 (Nat.le_of_ble_eq_true rfl) (St.nil w _) ?_
  simp only [argL]
  repeat' (first | (apply gL; first | (apply Wl.ev rfl rfl; (focus (first | exact ev_move rfl | exact ev_assign rfl | (apply gPic; first | exact ev_pickT rfl rfl | exact ev_pickF rfl rfl) | (apply gBin; first | exact ev_lei rfl rfl | exact ev_gei rfl rfl)))) | apply Wl.nil | (refine Wl.skip rfl rfl ?_) | ((fail_if_success (apply Wl.chk rfl)); refine Wl.split rfl rfl ?_ ?_ <;> (intro h; try (exfalso; first | contradiction | omega | exact h rfl | exact h ⟨rfl, rfl⟩ | (simp_all; done))))) | ((show W _ _ _ _ _ _ _ _ _); first | apply W.seq | apply W.region | (refine W.ret1 rfl rfl ?_; intro w hs)))
  all_goals exact ret_eq hs (congrArg Value.bool (Bool.eq_iff_iff.2 (by simp only [decide_eq_true_eq, Bool.false_eq_true, false_iff, dgB_iff]; omega)))
theorem letter10_ok (c : UInt8) (w : World) : Calls Tryd.prog 54 #[by8 c] w (Give (.bool (leB c)) w) := by
  refine give_of_W (vs := [by8 c]) Tryd.func54 rfl Tryd.ntmps54 (Nat.le_of_ble_eq_true rfl) (St.nil w _) ?_
  simp only [argL]
  repeat' (first | (apply gL; first | (apply Wl.ev rfl rfl; (focus (first | exact ev_move rfl | exact ev_assign rfl | (apply gPic; first | exact ev_pickT rfl rfl | exact ev_pickF rfl rfl) | (apply gBin; first | exact ev_eqi rfl rfl | exact ev_lei rfl rfl | exact ev_gei rfl rfl)))) | apply Wl.nil | (refine Wl.skip rfl rfl ?_) | ((fail_if_success (apply Wl.chk rfl)); refine Wl.split rfl rfl ?_ ?_ <;> (intro h; try (exfalso; first | contradiction | omega | exact h rfl | exact h ⟨rfl, rfl⟩ | (simp_all; done))))) | ((show W _ _ _ _ _ _ _ _ _); first | apply W.seq | apply W.region | (refine W.ret1 rfl rfl ?_; intro w hs)))
  all_goals exact ret_eq hs (congrArg Value.bool (Bool.eq_iff_iff.2 (by simp only [decide_eq_true_eq, true_iff, leB_iff]; omega)))
theorem at10_ok {s : List UInt8} {x : Int} (n : Nat) (hx : x = n) (hl : s.length ≤ 1000000) (w : World) : Calls Tryd.prog 53 #[st s, .int .i64 x] w (Give (by8 (s.getD n 0)) w) := by
  subst hx
  refine give_of_W (vs := [st s, .int .i64 (n : Nat)]) Tryd.func53 rfl Tryd.ntmps53 (Nat.le_of_ble_eq_true rfl) (St.nil w _) ?_
  simp only [argL, Nat.zero_add]
  repeat' (first | (apply gL; first | (apply Wl.ev rfl rfl; (focus (first | exact ev_move rfl | exact ev_assign rfl | exact ev_lti rfl rfl | (apply gCal; first | exact ev_len_string (strT rfl) rfl) | (apply gIdx; first | exact (ev_index_string (strT rfl) rfl rfl (by omega)).to (show _ = by8 (s.getD n 0) from rfl))))) | apply Wl.nil) | ((show W _ _ _ _ _ _ _ _ _); first | apply W.seq | apply W.region | apply W.skip | (refine W.cond rfl ?_ ?_ <;> (intro h; try (exfalso; first | contradiction | omega | exact h rfl | exact h ⟨rfl, rfl⟩ | (simp_all; done)))) | (refine W.ret1 rfl rfl ?_; intro w hs)))
  · exact ret_eq hs rfl
  · exact ret_eq hs (by simp [List.getD, List.getElem?_eq_none (show s.length ≤ n by omega)])
theorem endN_no : ∀ {l : List UInt8}, (∀ m, m + 1 < l.length → ¬(l.getD m 0 = 42 ∧ l.getD (m + 1) 0 = 47)) → endN l = none
  | [], _ => rfl
  | c :: l, h => by
    simp only [endN]
    rw [if_neg, endN_no (l := l) (fun m hm => by simpa using h (m + 1) (by simpa using hm))]
    · rfl
    · rintro ⟨h1, h2⟩
      cases l with
      | nil => simp at h2
      | cons d l =>
        have h2' : d = 47 := by simpa using h2
        exact h 0 (by simp) (by simpa using ⟨h1, h2'⟩)
theorem endN_at : ∀ {l : List UInt8} {k : Nat}, k + 1 < l.length → l.getD k 0 = 42 → l.getD (k + 1) 0 = 47 → (∀ m, m < k → ¬(l.getD m 0 = 42 ∧ l.getD (m + 1) 0 = 47)) → endN l = some k
  | [], _, h, _, _, _ => by simp at h
  | c :: l, 0, h, h1, h2, _ => by
    simp only [endN]
    rw [if_pos]
    cases l with
    | nil => simp at h
    | cons d l => simpa using ⟨h1, h2⟩
  | c :: l, k + 1, h, h1, h2, h3 => by
    simp only [endN]
    rw [if_neg, endN_at (l := l) (k := k) (by simpa using h) (by simpa using h1) (by simpa using h2) (fun m hm => by simpa using h3 (m + 1) (by omega))]
    · rfl
    · rintro ⟨h4, h5⟩
      cases l with
      | nil => simp at h5
      | cons d l =>
        have h5' : d = 47 := by simpa using h5
        exact h3 0 (by omega) (by simpa using ⟨h4, h5'⟩)
theorem drop_at {s : List UInt8} {i : Nat} (h : i < s.length) : s.drop i = s.getD i 0 :: s.drop (i + 1) := by rw [List.drop_eq_getElem_cons h]; simp [List.getD, h]
theorem getD_drop (s : List UInt8) (i n : Nat) : (s.drop i).getD n 0 = s.getD (i + n) 0 := by simp [List.getD, List.getElem?_drop]
set_option maxRecDepth 100000 in
set_option maxHeartbeats 8000000 in
theorem skip10_ok (s : List UInt8) (i : Nat) (hl : s.length ≤ 1000000) (hi : i ≤ s.length) (w : World) :
    Calls Tryd.prog 31 #[st s, .int .i64 (i : Nat)] w (Give (.tuple #[.int .i64 ((i + (skipS (s.drop i)).1 : Nat) : Int), .bool (skipS (s.drop i)).2]) w) := by
  refine give_of_W (vs := [st s, .int .i64 (i : Nat)]) Tryd.func31 rfl Tryd.ntmps31 (Nat.le_of_ble_eq_true rfl) (St.nil w _) ?_
  simp only [argL, Nat.zero_add]
  obtain ⟨R, hR⟩ : ∃ R, skipS (s.drop i) = R := ⟨_, rfl⟩
  rw [hR]
  repeat' (first | (apply gL; first | (apply Wl.ev rfl rfl; (focus (first | exact ev_assign rfl))) | apply Wl.nil) | ((show W _ _ _ _ _ _ _ _ _); first | apply W.seq | apply W.region | apply W.block))
  refine W.loop (X := Nat) (fun j => [(0, st s), (1, .int .i64 (j : Nat))]) (fun _ => []) (fun j => i ≤ j ∧ j ≤ s.length ∧ up (j - i) (skipS (s.drop j)) = R) (fun j => s.length - j) i ⟨Nat.le_refl _, hi, by rw [Nat.sub_self, up_zero]; exact hR⟩ (by repeat (first | exact SubL.nil | refine SubL.cons rfl ?_)) (by repeat (first | exact SubH.nil | apply SubH.keep | apply SubH.drop | exact List.Sublist.refl _)) ?_
  rintro j ⟨hij, hjl, hup⟩
  by_cases hlt : j < s.length
  · rw [drop_at hlt] at hup
    obtain ⟨c, hc⟩ : ∃ c, s.getD j 0 = c := ⟨_, rfl⟩
    obtain ⟨d, hd⟩ : ∃ d, s.getD (j + 1) 0 = d := ⟨_, rfl⟩
    have at1 : ∀ (x : Int) (w : World), x = (j : Int) + 1 → Calls Tryd.prog 53 #[st s, .int .i64 x] w (Give (by8 d) w) := fun x w hx => by rw [← hd]; exact at10_ok (j + 1) (by omega) hl w
    have getB1 : ∀ {x : Int}, x = j → Value.int .u8 ((s.getD x.toNat 0).toNat : Int) = by8 c := fun h => by rw [← hc]; exact getB h
    rw [hc] at hup
    have hth : ∀ k, k ≠ 0 → d = k → (s.drop (j + 1)).head? = some k := fun k hk h => by
      have : j + 1 < s.length := getD_len (by rw [hd, h]; exact hk)
      rw [drop_at this, hd, h]
      rfl
    by_cases hb : blB c = true
    · rw [skip_blank hb, up_up] at hup
      repeat' (first | (apply gL; first | (apply Wl.ev rfl rfl; (focus (first | exact ev_move rfl | exact ev_assign rfl | (apply gBin; first | exact ev_lti rfl rfl | exact ev_add64 rfl rfl (by omega)) | (apply gCal; first | exact ev_len_string (strT rfl) rfl) | (apply gIdx; first | exact (ev_index_string (strT rfl) rfl rfl (by omega)).to (show _ = by8 c from getB1 (by omega)))))) | ((show Wl _ _ _ _ _ _ _ (⟨_, .call ⟨.value (.func 52), _, _⟩, _, _, _, _⟩ :: _) _ _); refine wl_call0 rfl rfl has52 rfl (fun w _ => blank10_ok c w) ?_) | apply Wl.nil) | ((show W _ _ _ _ _ _ _ _ _); first | apply W.seq | (refine W.again (j + 1) ⟨by omega, by omega, by rw [← hup]; congr 1; omega⟩ (by omega) (by repeat (first | exact SubL.nil | refine SubL.cons rfl ?_)) (by repeat (first | exact SubH.nil | apply SubH.keep | apply SubH.drop | exact List.Sublist.refl _))) | apply W.region | apply W.block | apply W.blk | apply W.skip | (refine W.cond rfl ?_ ?_ <;> (intro h; try (exfalso; first | contradiction | omega | exact h rfl | exact h ⟨rfl, rfl⟩ | (simp_all; done)))) | (refine W.condB rfl ?_ ?_ <;> (intro h; try (exfalso; first | contradiction | (simp_all; done))))))
    · have hb' : blB c = false := by simpa using hb
      by_cases h47 : c = 47
      · have hcn : (c.toNat : Int) = 47 := by rw [h47]; rfl
        by_cases hd1 : d = 47
        · have hdn : (d.toNat : Int) = 47 := by rw [hd1]; rfl
          rw [h47, skip_line (hth 47 (by decide) hd1), ← h47, ← hc, ← drop_at hlt] at hup
          obtain ⟨N, hN⟩ : ∃ N, lineN (s.drop j) = N := ⟨_, rfl⟩
          have hNl : N ≤ s.length - j := by rw [← hN, ← List.length_drop]; exact runN_le _ _
          have hN1 : 1 ≤ N := by rw [← hN, drop_at hlt, hc]; exact lineN_pos h47
          rw [hN, up_up, List.drop_drop] at hup
          repeat' (first | (apply gL; first | (apply Wl.ev rfl rfl; (focus (first | exact ev_move rfl | exact ev_assign rfl | exact ev_pickT rfl rfl | (apply gBin; first | exact ev_eqi rfl rfl | exact ev_lti rfl rfl | exact ev_add64 rfl rfl (by omega)) | (apply gCal; first | exact ev_len_string (strT rfl) rfl) | (apply gIdx; first | exact (ev_index_string (strT rfl) rfl rfl (by omega)).to (show _ = by8 c from getB1 (by omega)))))) | ((show Wl _ _ _ _ _ _ _ (⟨_, .call ⟨.value (.func 52), _, _⟩, _, _, _, _⟩ :: _) _ _); refine wl_call0 rfl rfl has52 rfl (fun w _ => blank10_ok c w) ?_) | ((show Wl _ _ _ _ _ _ _ (⟨_, .call ⟨.value (.func 53), _, _⟩, _, _, _, _⟩ :: _) _ _); refine wl_call0 rfl rfl has53 rfl (fun w _ => at1 _ w (by omega)) ?_) | apply Wl.nil | ((fail_if_success (apply Wl.chk rfl)); refine Wl.split rfl rfl ?_ ?_ <;> (intro h; try (exfalso; first | contradiction | omega | exact h rfl | exact h ⟨rfl, rfl⟩ | (simp_all; done))))) | ((show W _ _ _ _ _ _ _ _ _); first | apply W.seq | (refine W.loop (X := Nat) (fun k => [(0, st s), (1, .int .i64 (k : Nat))]) (fun _ => []) (fun k => j ≤ k ∧ k ≤ j + N) (fun k => j + N - k) j ⟨Nat.le_refl _, by omega⟩ (by repeat (first | exact SubL.nil | refine SubL.cons rfl ?_)) (by repeat (first | exact SubH.nil | apply SubH.keep | apply SubH.drop | exact List.Sublist.refl _)) ?_) | apply W.region | apply W.block | apply W.skip | (refine W.cond rfl ?_ ?_ <;> (intro h; try (exfalso; first | contradiction | omega | exact h rfl | exact h ⟨rfl, rfl⟩ | (simp_all; done)))) | (refine W.condB rfl ?_ ?_ <;> (intro h; try (exfalso; first | contradiction | (simp_all; done))))))
          rintro k ⟨hjk, hkn⟩
          by_cases hk : k < j + N
          · have h10 : ¬((s.getD k 0).toNat : Int) = 10 := by
              have h1 := runN_all (fun b => !(b.toNat == 10)) (s.drop j)
              have h2 : (s.drop j).getD (k - j) 0 ∈ (s.drop j).take N := by
                have : k - j < ((s.drop j).take N).length := by simp; omega
                have h3 : (s.drop j).getD (k - j) 0 = ((s.drop j).take N)[k - j] := by
                  simp [List.getD, show k - j < s.length - j by omega]
                rw [h3]
                exact List.getElem_mem _
              have := h1 _ (by unfold lineN at hN; rw [hN]; exact h2)
              rw [getD_drop, show j + (k - j) = k by omega, Bool.not_eq_true', beq_eq_false_iff_ne] at this
              omega
            repeat' (first | (apply gL; first | (apply Wl.ev rfl rfl; (focus (first | exact ev_move rfl | exact ev_assign rfl | exact ev_pickT rfl rfl | (apply gBin; first | exact ev_nei rfl rfl | exact ev_lti rfl rfl | exact ev_add64 rfl rfl (by omega)) | (apply gCal; first | exact ev_len_string (strT rfl) rfl) | (apply gIdx; first | exact (ev_index_string (strT rfl) rfl rfl (by omega)).to (show _ = by8 (s.getD k 0) from rfl))))) | apply Wl.nil | ((fail_if_success (apply Wl.chk rfl)); refine Wl.split rfl rfl ?_ ?_ <;> (intro h; try (exfalso; first | contradiction | omega | exact h rfl | exact h ⟨rfl, rfl⟩ | (simp_all; done))))) | ((show W _ _ _ _ _ _ _ _ _); first | apply W.seq | (refine W.again (k + 1) ⟨by omega, by omega⟩ (by omega) (by repeat (first | exact SubL.nil | refine SubL.cons rfl ?_)) (by repeat (first | exact SubH.nil | apply SubH.keep | apply SubH.drop | exact List.Sublist.refl _))) | apply W.region | apply W.block | apply W.blk | apply W.skip | (refine W.cond rfl ?_ ?_ <;> (intro h; try (exfalso; first | contradiction | omega | exact h rfl | exact h ⟨rfl, rfl⟩ | (simp_all; done))))))
          · obtain rfl : k = j + N := by omega
            have h10 : j + N < s.length → ((s.getD (j + N) 0).toNat : Int) = 10 := fun h => by
              have h1 := runN_stop (fun b => !(b.toNat == 10)) (s.drop j)
              unfold lineN at hN
              rw [hN, getD_drop, List.length_drop] at h1
              have := h1 (by omega)
              rw [Bool.not_eq_false', beq_iff_eq] at this
              omega
            repeat' (first | (apply gL; first | (apply Wl.ev rfl rfl; (focus (first | exact ev_move rfl | (apply gPic; first | exact ev_pickT rfl rfl | exact ev_pickF rfl rfl) | (apply gBin; first | exact ev_nei rfl rfl | exact ev_lti rfl rfl) | (apply gCal; first | exact ev_len_string (strT rfl) rfl) | (apply gIdx; first | exact (ev_index_string (strT rfl) rfl rfl (by omega)).to (show _ = by8 (s.getD (j + N) 0) from rfl))))) | apply Wl.nil | (refine Wl.skip rfl rfl ?_) | ((fail_if_success (apply Wl.chk rfl)); refine Wl.split rfl rfl ?_ ?_ <;> (intro h; try (exfalso; first | contradiction | omega | exact h rfl | exact h ⟨rfl, rfl⟩ | (simp_all; done))))) | ((show W _ _ _ _ _ _ _ _ _); first | apply W.seq | (refine W.again (j + N) ⟨by omega, by omega, by rw [← hup]; congr 1; omega⟩ (by omega) (by repeat (first | exact SubL.nil | refine SubL.cons rfl ?_)) (by repeat (first | exact SubH.nil | apply SubH.keep | apply SubH.drop | exact List.Sublist.refl _))) | apply W.region | apply W.blk | (refine W.exit rfl ?_) | (refine W.condF rfl ?_) | (refine W.cond rfl ?_ ?_ <;> (intro h; try (exfalso; first | contradiction | omega | exact h rfl | exact h ⟨rfl, rfl⟩ | (simp_all; done))))))
            all_goals (exfalso; have := h10 (by omega); omega)
        · have hdn := by_ne hd1
          by_cases hd2 : d = 42
          · have hdm : (d.toNat : Int) = 42 := by rw [hd2]; rfl
            have hj1 : j + 1 < s.length := getD_len (by rw [hd, hd2]; decide)
            have hh := hth 42 (by decide) hd2
            obtain ⟨u, hu⟩ : ∃ u, s.drop (j + 2) = u := ⟨_, rfl⟩
            have hud : (s.drop (j + 1)).drop 1 = u := by rw [List.drop_drop]; exact hu
            have hul : u.length + (j + 2) = s.length := by rw [← hu]; simp; omega
            have hget : ∀ m, u.getD m 0 = s.getD (j + 2 + m) 0 := fun m => by rw [← hu]; exact getD_drop _ _ _
            repeat' (first | (apply gL; first | (apply Wl.ev rfl rfl; (focus (first | exact ev_move rfl | exact ev_assign rfl | exact ev_pickT rfl rfl | (apply gBin; first | exact ev_eqi rfl rfl | exact ev_lti rfl rfl | exact ev_add64 rfl rfl (by omega)) | (apply gCal; first | exact ev_len_string (strT rfl) rfl) | (apply gIdx; first | exact (ev_index_string (strT rfl) rfl rfl (by omega)).to (show _ = by8 c from getB1 (by omega)))))) | ((show Wl _ _ _ _ _ _ _ (⟨_, .call ⟨.value (.func 52), _, _⟩, _, _, _, _⟩ :: _) _ _); refine wl_call0 rfl rfl has52 rfl (fun w _ => blank10_ok c w) ?_) | ((show Wl _ _ _ _ _ _ _ (⟨_, .call ⟨.value (.func 53), _, _⟩, _, _, _, _⟩ :: _) _ _); refine wl_call0 rfl rfl has53 rfl (fun w _ => at1 _ w (by omega)) ?_) | apply Wl.nil | ((fail_if_success (apply Wl.chk rfl)); refine Wl.split rfl rfl ?_ ?_ <;> (intro h; try (exfalso; first | contradiction | omega | exact h rfl | exact h ⟨rfl, rfl⟩ | (simp_all; done))))) | ((show W _ _ _ _ _ _ _ _ _); first | apply W.seq | (refine W.loop (X := Nat) (fun k => [(0, st s), (1, .int .i64 (j : Nat)), (6, .int .i64 ((j + 2 + k : Nat) : Int))]) (fun _ => []) (fun k => k ≤ u.length ∧ ∀ m, m < k → ¬(u.getD m 0 = 42 ∧ u.getD (m + 1) 0 = 47)) (fun k => u.length - k) 0 ⟨Nat.zero_le _, fun m hm => absurd hm (Nat.not_lt_zero _)⟩ (by repeat (first | exact SubL.nil | refine SubL.cons rfl ?_)) (by repeat (first | exact SubH.nil | apply SubH.keep | apply SubH.drop | exact List.Sublist.refl _)) ?_) | apply W.region | apply W.block | apply W.skip | (refine W.cond rfl ?_ ?_ <;> (intro h; try (exfalso; first | contradiction | omega | exact h rfl | exact h ⟨rfl, rfl⟩ | (simp_all; done)))) | (refine W.condB rfl ?_ ?_ <;> (intro h; try (exfalso; first | contradiction | (simp_all; done))))))
            rintro k ⟨hku, hno⟩
            by_cases hk : k + 1 < u.length
            · obtain ⟨a, ha⟩ : ∃ a, s.getD (j + 2 + k) 0 = a := ⟨_, rfl⟩
              obtain ⟨b, hb⟩ : ∃ b, s.getD (j + 2 + k + 1) 0 = b := ⟨_, rfl⟩
              have ga : ∀ {x : Int}, x = (j + 2 + k : Nat) → Value.int .u8 ((s.getD x.toNat 0).toNat : Int) = by8 a := fun h => by rw [← ha]; exact getB h
              have gb : ∀ {x : Int}, x = (j + 2 + k + 1 : Nat) → Value.int .u8 ((s.getD x.toNat 0).toNat : Int) = by8 b := fun h => by rw [← hb]; exact getB h
              by_cases hm : a = 42 ∧ b = 47
              · have ham : (a.toNat : Int) = 42 := by rw [hm.1]; rfl
                have hbm : (b.toNat : Int) = 47 := by rw [hm.2]; rfl
                have he : endN u = some k := endN_at hk (by rw [hget, ha]; exact hm.1) (by rw [hget, ← hm.2, ← hb]; rfl) hno
                rw [h47, skip_block hh (by rw [hud]; exact he), ← h47, ← hc, ← drop_at hlt, up_up, List.drop_drop] at hup
                repeat' (first | (apply gL; first | (apply Wl.ev rfl rfl; (focus (first | exact ev_move rfl | exact ev_assign rfl | exact ev_pickT rfl rfl | (apply gBin; first | exact ev_eqi rfl rfl | exact ev_lti rfl rfl | exact ev_gei rfl rfl | exact ev_add64 rfl rfl (by omega)) | exact ev_notD rfl | (apply gCal; first | exact ev_len_string (strT rfl) rfl) | (apply gIdx; first | exact (ev_index_string (strT rfl) rfl rfl (by omega)).to (show _ = by8 a from ga (by omega)) | exact (ev_index_string (strT rfl) rfl rfl (by omega)).to (show _ = by8 b from gb (by omega)))))) | apply Wl.nil | ((fail_if_success (apply Wl.chk rfl)); refine Wl.split rfl rfl ?_ ?_ <;> (intro h; try (exfalso; first | contradiction | omega | exact h rfl | exact h ⟨rfl, rfl⟩ | (simp_all; done))))) | ((show W _ _ _ _ _ _ _ _ _); first | apply W.seq | (refine W.again (j + 2 + k + 2) ⟨by omega, by omega, by rw [← hup, show j + (k + 4) = j + 2 + k + 2 by omega]; congr 1; omega⟩ (by omega) (by repeat (first | exact SubL.nil | refine SubL.cons rfl ?_)) (by repeat (first | exact SubH.nil | apply SubH.keep | apply SubH.drop | exact List.Sublist.refl _))) | apply W.region | apply W.blk | apply W.skip | (refine W.exit rfl ?_) | (refine W.cond rfl ?_ ?_ <;> (intro h; try (exfalso; first | contradiction | omega | exact h rfl | exact h ⟨rfl, rfl⟩ | (simp_all; done))))))
              · have hmn : ¬((a.toNat : Int) = 42 ∧ (b.toNat : Int) = 47) := fun h => hm ⟨UInt8.toNat_inj.1 (by show _ = 42; omega), UInt8.toNat_inj.1 (by show _ = 47; omega)⟩
                have hno' : ∀ m, m < k + 1 → ¬(u.getD m 0 = 42 ∧ u.getD (m + 1) 0 = 47) := fun m hm2 => by
                  rcases Nat.lt_or_ge m k with h | h
                  · exact hno m h
                  · obtain rfl : m = k := by omega
                    rw [hget, hget, ha, show j + 2 + (m + 1) = j + 2 + m + 1 by omega, hb]
                    exact hm
                repeat' (first | (apply gL; first | (apply Wl.ev rfl rfl; (focus (first | exact ev_move rfl | exact ev_assign rfl | (apply gPic; first | exact ev_pickT rfl rfl | exact ev_pickF rfl rfl) | (apply gBin; first | exact ev_eqi rfl rfl | exact ev_lti rfl rfl | exact ev_add64 rfl rfl (by omega)) | (apply gUn; first | exact ev_notF rfl | exact ev_notD rfl) | (apply gCal; first | exact ev_len_string (strT rfl) rfl) | (apply gIdx; first | exact (ev_index_string (strT rfl) rfl rfl (by omega)).to (show _ = by8 a from ga (by omega)) | exact (ev_index_string (strT rfl) rfl rfl (by omega)).to (show _ = by8 b from gb (by omega)))))) | apply Wl.nil | (refine Wl.skip rfl rfl ?_) | ((fail_if_success (apply Wl.chk rfl)); refine Wl.split rfl rfl ?_ ?_ <;> (intro h; try (exfalso; first | contradiction | omega | exact h rfl | exact h ⟨rfl, rfl⟩ | (simp_all; done))))) | ((show W _ _ _ _ _ _ _ _ _); first | apply W.seq | (refine W.again (k + 1) ⟨by omega, hno'⟩ (by omega) (by repeat (first | exact SubL.nil | refine SubL.cons rfl ?_)) (by repeat (first | exact SubH.nil | apply SubH.keep | apply SubH.drop | exact List.Sublist.refl _))) | apply W.region | apply W.block | apply W.blk | apply W.skip | (refine W.condT rfl ?_) | (refine W.cond rfl ?_ ?_ <;> (intro h; try (exfalso; first | contradiction | omega | exact h rfl | exact h ⟨rfl, rfl⟩ | (simp_all; done))))))
                all_goals (exfalso; omega)
            · have he : endN u = none := endN_no fun m hm => hno m (by omega)
              rw [h47, skip_open hh (by rw [hud]; exact he)] at hup
              have e : i + R.1 = j := by rw [← hup]; simp only [up]; omega
              have e2 : R.2 = false := by rw [← hup]; rfl
              rw [e, e2]
              repeat' (first | (apply gL; first | (apply Wl.ev rfl rfl; (focus (first | exact ev_move rfl | exact ev_assign rfl | exact ev_pickF rfl rfl | (apply gBin; first | exact ev_lti rfl rfl | exact ev_gei rfl rfl | exact ev_add64 rfl rfl (by omega)) | (apply gCal; first | exact ev_len_string (strT rfl) rfl)))) | apply Wl.nil | (refine Wl.skip rfl rfl ?_) | ((fail_if_success (apply Wl.chk rfl)); refine Wl.split rfl rfl ?_ ?_ <;> (intro h; try (exfalso; first | contradiction | omega | exact h rfl | exact h ⟨rfl, rfl⟩ | (simp_all; done))))) | ((show W _ _ _ _ _ _ _ _ _); first | apply W.seq | apply W.region | (refine W.exit rfl ?_) | (refine W.condF rfl ?_) | (refine W.cond rfl ?_ ?_ <;> (intro h; try (exfalso; first | contradiction | omega | exact h rfl | exact h ⟨rfl, rfl⟩ | (simp_all; done)))) | (refine W.ret2 rfl rfl rfl ?_; intro w hs)))
              exact ret_eq hs rfl
          · have hdm := by_ne hd2
            have hno : ¬(c = 47 ∧ ((s.drop (j + 1)).head? = some 47 ∨ (s.drop (j + 1)).head? = some 42)) := fun h => by
              have hz : ∀ k, (s.drop (j + 1)).head? = some k → d = k := fun k hk => by
                by_cases h : j + 1 < s.length
                · rw [drop_at h, hd] at hk
                  simpa using hk
                · rw [List.drop_eq_nil_of_le (by omega)] at hk
                  cases hk
              rcases h.2 with h | h
              · exact hd1 (hz _ h)
              · exact hd2 (hz _ h)
            rw [skip_stop hb' hno] at hup
            have e : i + R.1 = j := by rw [← hup]; simp only [up]; omega
            have e2 : R.2 = true := by rw [← hup]; rfl
            rw [e, e2]
            repeat' (first | (apply gL; first | (apply Wl.ev rfl rfl; (focus (first | exact ev_move rfl | exact ev_assign rfl | exact ev_pickT rfl rfl | (apply gBin; first | exact ev_eqi rfl rfl | exact ev_lti rfl rfl | exact ev_add64 rfl rfl (by omega)) | (apply gCal; first | exact ev_len_string (strT rfl) rfl) | (apply gIdx; first | exact (ev_index_string (strT rfl) rfl rfl (by omega)).to (show _ = by8 c from getB1 (by omega)))))) | ((show Wl _ _ _ _ _ _ _ (⟨_, .call ⟨.value (.func 52), _, _⟩, _, _, _, _⟩ :: _) _ _); refine wl_call0 rfl rfl has52 rfl (fun w _ => blank10_ok c w) ?_) | ((show Wl _ _ _ _ _ _ _ (⟨_, .call ⟨.value (.func 53), _, _⟩, _, _, _, _⟩ :: _) _ _); refine wl_call0 rfl rfl has53 rfl (fun w _ => at1 _ w (by omega)) ?_) | apply Wl.nil | ((fail_if_success (apply Wl.chk rfl)); refine Wl.split rfl rfl ?_ ?_ <;> (intro h; try (exfalso; first | contradiction | omega | exact h rfl | exact h ⟨rfl, rfl⟩ | (simp_all; done))))) | ((show W _ _ _ _ _ _ _ _ _); first | apply W.seq | apply W.region | apply W.block | apply W.skip | (refine W.cond rfl ?_ ?_ <;> (intro h; try (exfalso; first | contradiction | omega | exact h rfl | exact h ⟨rfl, rfl⟩ | (simp_all; done)))) | (refine W.condB rfl ?_ ?_ <;> (intro h; try (exfalso; first | contradiction | (simp_all; done)))) | (refine W.ret2 rfl rfl rfl ?_; intro w hs)))
            all_goals exact ret_eq hs rfl
      · have hcn := by_ne h47
        rw [skip_stop hb' (fun h => h47 h.1)] at hup
        have e : i + R.1 = j := by rw [← hup]; simp only [up]; omega
        have e2 : R.2 = true := by rw [← hup]; rfl
        rw [e, e2]
        repeat' (first | (apply gL; first | (apply Wl.ev rfl rfl; (focus (first | exact ev_move rfl | exact ev_assign rfl | exact ev_pickF rfl rfl | (apply gBin; first | exact ev_eqi rfl rfl | exact ev_lti rfl rfl) | (apply gCal; first | exact ev_len_string (strT rfl) rfl) | (apply gIdx; first | exact (ev_index_string (strT rfl) rfl rfl (by omega)).to (show _ = by8 c from getB1 (by omega)))))) | ((show Wl _ _ _ _ _ _ _ (⟨_, .call ⟨.value (.func 52), _, _⟩, _, _, _, _⟩ :: _) _ _); refine wl_call0 rfl rfl has52 rfl (fun w _ => blank10_ok c w) ?_) | apply Wl.nil | (refine Wl.skip rfl rfl ?_) | ((fail_if_success (apply Wl.chk rfl)); refine Wl.split rfl rfl ?_ ?_ <;> (intro h; try (exfalso; first | contradiction | omega | exact h rfl | exact h ⟨rfl, rfl⟩ | (simp_all; done))))) | ((show W _ _ _ _ _ _ _ _ _); first | apply W.seq | apply W.region | apply W.block | apply W.skip | (refine W.condF rfl ?_) | (refine W.cond rfl ?_ ?_ <;> (intro h; try (exfalso; first | contradiction | omega | exact h rfl | exact h ⟨rfl, rfl⟩ | (simp_all; done)))) | (refine W.condB rfl ?_ ?_ <;> (intro h; try (exfalso; first | contradiction | (simp_all; done)))) | (refine W.ret2 rfl rfl rfl ?_; intro w hs)))
        all_goals exact ret_eq hs rfl
  · obtain rfl : j = s.length := by omega
    rw [List.drop_length, skip_nil] at hup
    have e : i + R.1 = s.length := by rw [← hup]; simp only [up]; omega
    have e2 : R.2 = true := by rw [← hup]; rfl
    rw [e, e2]
    repeat' (first | (apply gL; first | (apply Wl.ev rfl rfl; (focus (first | exact ev_move rfl | exact ev_assign rfl | exact ev_lti rfl rfl | (apply gCal; first | exact ev_len_string (strT rfl) rfl)))) | apply Wl.nil) | ((show W _ _ _ _ _ _ _ _ _); first | apply W.seq | apply W.region | (refine W.exit rfl ?_) | (refine W.cond rfl ?_ ?_ <;> (intro h; try (exfalso; first | contradiction | omega | exact h rfl | exact h ⟨rfl, rfl⟩ | (simp_all; done)))) | (refine W.ret2 rfl rfl rfl ?_; intro w hs)))
    exact ret_eq hs rfl
end Go.Proofs.YthhfandandfeeaaDoor
