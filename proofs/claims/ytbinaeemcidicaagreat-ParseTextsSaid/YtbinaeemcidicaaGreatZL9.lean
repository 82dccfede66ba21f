/- Walks of the document's answer: bytes, blanks and comments, signs. No condition. -/
import Derived.Test.YtbinaeemcidicaaGreatZL7
set_option maxRecDepth 100000
set_option maxHeartbeats 16000000
namespace Go.Proofs.YtbinaeemcidicaaGreat
open Go.PB Go.RowKit
attribute [local irreducible] Go.Calls
theorem blank10_ok (c : UInt8) (w : World) : Calls Tryz.prog 87 #[by8 c] w (Give (.bool (blB c)) w) := by
 refine give_of_W (vs := [by8 c]) Tryz.func87 rfl Tryz.ntmps87 (Nat.le_of_ble_eq_true rfl) (St.nil w _) ?_
 simp only [argL]
 repeat' (first | (apply gL; first | (apply Wl.ev rfl rfl; exact Zev) | apply Wl.nil | (refine Zbb ?_) | ((fail_if_success (apply Wl.chk rfl)); refine Wl.split rfl rfl ?_ ?_ <;> (intro h; try exact Zh))) | (apply lW; first | apply W.seq | apply W.region | (refine Zx ?_; intro w hs)))
 all_goals exact ret_eq hs (congrArg Value.bool (Bool.eq_iff_iff.2 (by simp only [decide_eq_true_eq, true_iff, blB_iff]; omega)))
theorem digit10_ok (c : UInt8) (w : World) : Calls Tryz.prog 90 #[by8 c] w (Give (.bool (dgB c)) w) := by
 refine give_of_W (vs := [by8 c]) Tryz.func90 rfl Tryz.ntmps90 (Nat.le_of_ble_eq_true rfl) (St.nil w _) ?_
 simp only [argL]
 repeat' (first | (apply gL; first | (apply Wl.ev rfl rfl; exact Zev) | apply Wl.nil | (refine Zbb ?_) | ((fail_if_success (apply Wl.chk rfl)); refine Wl.split rfl rfl ?_ ?_ <;> (intro h; try exact Zh))) | (apply lW; first | apply W.seq | apply W.region | (refine Zx ?_; intro w hs)))
 all_goals exact ret_eq hs (congrArg Value.bool (Bool.eq_iff_iff.2 Zmv))
theorem letter10_ok (c : UInt8) (w : World) : Calls Tryz.prog 89 #[by8 c] w (Give (.bool (leB c)) w) := by
 refine give_of_W (vs := [by8 c]) Tryz.func89 rfl Tryz.ntmps89 (Nat.le_of_ble_eq_true rfl) (St.nil w _) ?_
 simp only [argL]
 repeat' (first | (apply gL; first | (apply Wl.ev rfl rfl; exact Zev) | apply Wl.nil | (refine Zbb ?_) | ((fail_if_success (apply Wl.chk rfl)); refine Wl.split rfl rfl ?_ ?_ <;> (intro h; try exact Zh))) | (apply lW; first | apply W.seq | apply W.region | (refine Zx ?_; intro w hs)))
 all_goals exact ret_eq hs (congrArg Value.bool (Bool.eq_iff_iff.2 (by simp only [decide_eq_true_eq, true_iff, leB_iff]; omega)))
theorem at10_ok {s : List UInt8} {x : Int} (n : Nat) (hx : x = n) (_ : s.length ≤ 1000000) (w : World) : Calls Tryz.prog 88 #[st s, .int .i64 x] w (Give (by8 (s.getD n 0)) w) := by
 subst hx
 refine give_of_W (vs := [st s, .int .i64 (n : Nat)]) Tryz.func88 rfl Tryz.ntmps88 (Nat.le_of_ble_eq_true rfl) (St.nil w _) ?_
 simp only [argL, Nat.zero_add]
 repeat' (first | (apply gL; first | (apply Wl.ev rfl rfl; (focus (first | (apply gIdx; first | exact (ev_index_string (strT rfl) rfl rfl Zga).to (show _ = by8 (s.getD n 0) from rfl)) | exact Zev))) | apply Wl.nil) | (apply lW; first | apply W.seq | apply W.region | apply W.skip | (refine Zv ?_ ?_ <;> (intro h; try exact Zh)) | (refine Zx ?_; intro w hs)))
 ·exact ret_eq hs rfl
 ·exact ret_eq hs (by simp [List.getD, List.getElem?_eq_none (show s.length ≤ n by omega)])
theorem endN_no : ∀ {l : List UInt8}, (∀ m, m + 1 < l.length → ¬(l.getD m 0 = 42 ∧ l.getD (m + 1) 0 = 47)) → endN l = none
 | [], _ => rfl
 | c :: l, h => by
  simp only [endN]
  rw [if_neg, endN_no (l := l) (fun m hm => by simpa using h (m + 1) (by simpa using hm))]
  ·rfl
  ·rintro ⟨h1, h2⟩
   cases l with
   | nil => simp at h2
   | cons d l =>
    have h2' : d = 47 := by simpa using h2
    exact h 0 Zgn (by simpa using ⟨h1, h2'⟩)
theorem endN_at : ∀ {l : List UInt8} {k : Nat}, k + 1 < l.length → l.getD k 0 = 42 → l.getD (k + 1) 0 = 47 → (∀ m, m < k → ¬(l.getD m 0 = 42 ∧ l.getD (m + 1) 0 = 47)) → endN l = some k
 | [], _, h, _, _, _ => by simp at h
 | c :: l, 0, h, h1, h2, _ => by
  simp only [endN]
  rw [if_pos]
  cases l with
  | nil => simp at h
  | cons d l => simpa using ⟨h1, h2⟩
 | c :: l, k + 1, h, h1, h2, h3 => by
  simp only [endN]
  rw [if_neg, endN_at (l := l) (k := k) Zm5 (by simpa using h1) (by simpa using h2) (fun m hm => by simpa using h3 (m + 1) Zga)]
  ·rfl
  ·rintro ⟨h4, h5⟩
   cases l with
   | nil => simp at h5
   | cons d l =>
    have h5' : d = 47 := by simpa using h5
    exact h3 0 Zga (by simpa using ⟨h4, h5'⟩)
theorem drop_at {s : List UInt8} {i : Nat} (h : i < s.length) : s.drop i = s.getD i 0 :: s.drop (i + 1) := by rw [List.drop_eq_getElem_cons h]; simp [List.getD, h]
theorem getD_drop (s : List UInt8) (i n : Nat) : (s.drop i).getD n 0 = s.getD (i + n) 0 := by simp [List.getD, List.getElem?_drop]
theorem skip10_ok (s : List UInt8) (i : Nat) (hl : s.length ≤ 1000000) (hi : i ≤ s.length) (w : World) :
  Calls Tryz.prog 59 #[st s, .int .i64 (i : Nat)] w (Give (.tuple #[.int .i64 ((i + (skipS (s.drop i)).1 : Nat) : Int), .bool (skipS (s.drop i)).2]) w) := by
 refine give_of_W (vs := [st s, .int .i64 (i : Nat)]) Tryz.func59 rfl Tryz.ntmps59 (Nat.le_of_ble_eq_true rfl) (St.nil w _) ?_
 simp only [argL, Nat.zero_add]
 obtain ⟨R, hR⟩ : ∃ R, skipS (s.drop i) = R := ⟨_, rfl⟩
 rw [hR]
 repeat' (first | (apply gL; first | (apply Wl.ev rfl rfl; exact Zev) | apply Wl.nil) | (apply lW; first | apply W.seq | apply W.region | apply W.block))
 refine W.loop (X := Nat) (fun j => [(0, st s), (1, .int .i64 (j : Nat))]) (fun _ => []) (fun j => i ≤ j ∧ j ≤ s.length ∧ up (j - i) (skipS (s.drop j)) = R) (fun j => s.length - j) i ⟨Nat.le_refl _, hi, by rw [Nat.sub_self, up_zero]; exact hR⟩ Zm Zb ?_
 rintro j ⟨hij, hjl, hup⟩
 by_cases hlt : j < s.length
 ·rw [drop_at hlt] at hup
  obtain ⟨c, hc⟩ : ∃ c, s.getD j 0 = c := ⟨_, rfl⟩
  obtain ⟨d, hd⟩ : ∃ d, s.getD (j + 1) 0 = d := ⟨_, rfl⟩
  have at1 : ∀ (x : Int) (w : World), x = (j : Int) + 1 → Calls Tryz.prog 88 #[st s, .int .i64 x] w (Give (by8 d) w) := fun x w hx => by rw [← hd]; exact at10_ok (j + 1) Zga hl w
  have getB1 : ∀ {x : Int}, x = j → Value.int .u8 ((s.getD x.toNat 0).toNat : Int) = by8 c := fun h => by rw [← hc]; exact getB h
  rw [hc] at hup
  have hth : ∀ k, k ≠ 0 → d = k → (s.drop (j + 1)).head? = some k := fun k hk h => by
   have : j + 1 < s.length := getD_len (by rw [hd, h]; exact hk)
   rw [drop_at this, hd, h]
   rfl
  by_cases hb : blB c = true
  ·rw [skip_blank hb, up_up] at hup
   repeat' (first | (apply gL; first | (apply Wl.ev rfl rfl; exact Zcq) | (refine lD 87 ?_; refine wl_call0 rfl rfl has87 rfl (fun w _ => blank10_ok c w) ?_) | apply Wl.nil) | (apply lW; first | apply W.seq | (refine W.again (j + 1) ⟨by omega, by omega, by rw [← hup]; congr 1; omega⟩ Zga Zm Zb) | apply W.region | apply W.block | apply W.blk | apply W.skip | (refine Zv ?_ ?_ <;> (intro h; try exact Zh)) | (refine Zb0 ?_ ?_ <;> (intro h; try exact Zbe))))
  ·have hb' : blB c = false := by simpa using hb
   by_cases h47 : c = 47
   ·have hcn : (c.toNat : Int) = 47 := by rw [h47]; rfl
    by_cases hd1 : d = 47
    ·have hdn : (d.toNat : Int) = 47 := by rw [hd1]; rfl
     rw [h47, skip_line (hth 47 Zf7 hd1), ← h47, ← hc, ← drop_at hlt] at hup
     obtain ⟨N, hN⟩ : ∃ N, lineN (s.drop j) = N := ⟨_, rfl⟩
     have hNl : N ≤ s.length - j := by rw [← hN, ← List.length_drop]; exact runN_le _ _
     have hN1 : 1 ≤ N := by rw [← hN, drop_at hlt, hc]; exact lineN_pos h47
     rw [hN, up_up, List.drop_drop] at hup
     repeat' (first | (apply gL; first | (apply Wl.ev rfl rfl; exact Zcq) | (refine lD 87 ?_; refine wl_call0 rfl rfl has87 rfl (fun w _ => blank10_ok c w) ?_) | (refine lD 88 ?_; refine wl_call0 rfl rfl has88 rfl (fun w _ => at1 _ w Zga) ?_) | apply Wl.nil | ((fail_if_success (apply Wl.chk rfl)); refine Wl.split rfl rfl ?_ ?_ <;> (intro h; try exact Zh))) | (apply lW; first | apply W.seq | (refine W.loop (X := Nat) (fun k => [(0, st s), (1, .int .i64 (k : Nat))]) (fun _ => []) (fun k => j ≤ k ∧ k ≤ j + N) (fun k => j + N - k) j ⟨Nat.le_refl _, by omega⟩ Zm Zb ?_) | apply W.region | apply W.block | apply W.skip | (refine Zv ?_ ?_ <;> (intro h; try exact Zh)) | (refine Zb0 ?_ ?_ <;> (intro h; try exact Zbe))))
     rintro k ⟨hjk, hkn⟩
     by_cases hk : k < j + N
     ·have h10 : ¬((s.getD k 0).toNat : Int) = 10 := by
       have h1 := runN_all (fun b => !(b.toNat == 10)) (s.drop j)
       have h2 : (s.drop j).getD (k - j) 0 ∈ (s.drop j).take N := by
        have : k - j < ((s.drop j).take N).length := by simp; omega
        have h3 : (s.drop j).getD (k - j) 0 = ((s.drop j).take N)[k - j] := by
         simp [List.getD, show k - j < s.length - j by omega]
        rw [h3]
        exact List.getElem_mem _
       have := h1 _ (by unfold lineN at hN; rw [hN]; exact h2)
       rw [getD_drop, show j + (k - j) = k by omega, Bool.not_eq_true', beq_eq_false_iff_ne] at this
       omega
      repeat' (first | (apply gL; first | (apply Wl.ev rfl rfl; (focus (first | (apply gIdx; first | exact (ev_index_string (strT rfl) rfl rfl Zga).to (show _ = by8 (s.getD k 0) from rfl)) | exact Zev))) | apply Wl.nil | ((fail_if_success (apply Wl.chk rfl)); refine Wl.split rfl rfl ?_ ?_ <;> (intro h; try exact Zh))) | (apply lW; first | apply W.seq | (refine W.again (k + 1) ⟨by omega, by omega⟩ Zga Zm Zb) | apply W.region | apply W.block | apply W.blk | apply W.skip | (refine Zv ?_ ?_ <;> (intro h; try exact Zh))))
     ·obtain rfl : k = j + N := by omega
      have h10 : j + N < s.length → ((s.getD (j + N) 0).toNat : Int) = 10 := fun h => by
       have h1 := runN_stop (fun b => !(b.toNat == 10)) (s.drop j)
       unfold lineN at hN
       rw [hN, getD_drop, List.length_drop] at h1
       have := h1 Zga
       rw [Bool.not_eq_false', beq_iff_eq] at this
       omega
      repeat' (first | (apply gL; first | (apply Wl.ev rfl rfl; (focus (first | (apply gIdx; first | exact (ev_index_string (strT rfl) rfl rfl Zga).to (show _ = by8 (s.getD (j + N) 0) from rfl)) | exact Zev))) | apply Wl.nil | (refine Zbb ?_) | ((fail_if_success (apply Wl.chk rfl)); refine Wl.split rfl rfl ?_ ?_ <;> (intro h; try exact Zh))) | (apply lW; first | apply W.seq | (refine W.again (j + N) ⟨by omega, by omega, by rw [← hup]; congr 1; omega⟩ Zga Zm Zb) | apply W.region | apply W.blk | (refine Zbm ?_) | (refine Zbc ?_) | (refine Zv ?_ ?_ <;> (intro h; try exact Zh))))
      all_goals (exfalso; have := h10 Zga; omega)
    ·have hdn := by_ne hd1
     by_cases hd2 : d = 42
     ·have hdm : (d.toNat : Int) = 42 := by rw [hd2]; rfl
      have hj1 : j + 1 < s.length := getD_len (by rw [hd, hd2]; decide)
      have hh := hth 42 Zf7 hd2
      obtain ⟨u, hu⟩ : ∃ u, s.drop (j + 2) = u := ⟨_, rfl⟩
      have hud : (s.drop (j + 1)).drop 1 = u := by rw [List.drop_drop]; exact hu
      have hul : u.length + (j + 2) = s.length := by rw [← hu]; simp; omega
      have hget : ∀ m, u.getD m 0 = s.getD (j + 2 + m) 0 := fun m => by rw [← hu]; exact getD_drop _ _ _
      repeat' (first | (apply gL; first | (apply Wl.ev rfl rfl; exact Zcq) | (refine lD 87 ?_; refine wl_call0 rfl rfl has87 rfl (fun w _ => blank10_ok c w) ?_) | (refine lD 88 ?_; refine wl_call0 rfl rfl has88 rfl (fun w _ => at1 _ w Zga) ?_) | apply Wl.nil | ((fail_if_success (apply Wl.chk rfl)); refine Wl.split rfl rfl ?_ ?_ <;> (intro h; try exact Zh))) | (apply lW; first | apply W.seq | (refine W.loop (X := Nat) (fun k => [(0, st s), (1, .int .i64 (j : Nat)), (6, .int .i64 ((j + 2 + k : Nat) : Int))]) (fun _ => []) (fun k => k ≤ u.length ∧ ∀ m, m < k → ¬(u.getD m 0 = 42 ∧ u.getD (m + 1) 0 = 47)) (fun k => u.length - k) 0 ⟨Nat.zero_le _, fun m hm => absurd hm (Nat.not_lt_zero _)⟩ Zm Zb ?_) | apply W.region | apply W.block | apply W.skip | (refine Zv ?_ ?_ <;> (intro h; try exact Zh)) | (refine Zb0 ?_ ?_ <;> (intro h; try exact Zbe))))
      rintro k ⟨hku, hno⟩
      by_cases hk : k + 1 < u.length
      ·obtain ⟨a, ha⟩ : ∃ a, s.getD (j + 2 + k) 0 = a := ⟨_, rfl⟩
       obtain ⟨b, hb⟩ : ∃ b, s.getD (j + 2 + k + 1) 0 = b := ⟨_, rfl⟩
       have ga : ∀ {x : Int}, x = (j + 2 + k : Nat) → Value.int .u8 ((s.getD x.toNat 0).toNat : Int) = by8 a := fun h => by rw [← ha]; exact getB h
       have gb : ∀ {x : Int}, x = (j + 2 + k + 1 : Nat) → Value.int .u8 ((s.getD x.toNat 0).toNat : Int) = by8 b := fun h => by rw [← hb]; exact getB h
       by_cases hm : a = 42 ∧ b = 47
       ·have ham : (a.toNat : Int) = 42 := by rw [hm.1]; rfl
        have hbm : (b.toNat : Int) = 47 := by rw [hm.2]; rfl
        have he : endN u = some k := endN_at hk (by rw [hget, ha]; exact hm.1) (by rw [hget, ← hm.2, ← hb]; rfl) hno
        rw [h47, skip_block hh (by rw [hud]; exact he), ← h47, ← hc, ← drop_at hlt, up_up, List.drop_drop] at hup
        repeat' (first | (apply gL; first | (apply Wl.ev rfl rfl; exact Zel) | apply Wl.nil | ((fail_if_success (apply Wl.chk rfl)); refine Wl.split rfl rfl ?_ ?_ <;> (intro h; try exact Zh))) | (apply lW; first | apply W.seq | (refine W.again (j + 2 + k + 2) ⟨by omega, by omega, by rw [← hup, show j + (k + 4) = j + 2 + k + 2 by omega]; congr 1; omega⟩ Zga Zm Zb) | apply W.region | apply W.blk | apply W.skip | (refine Zbm ?_) | (refine Zv ?_ ?_ <;> (intro h; try exact Zh))))
       ·have hmn : ¬((a.toNat : Int) = 42 ∧ (b.toNat : Int) = 47) := fun h => hm ⟨UInt8.toNat_inj.1 (by show _ = 42; omega), UInt8.toNat_inj.1 (by show _ = 47; omega)⟩
        have hno' : ∀ m, m < k + 1 → ¬(u.getD m 0 = 42 ∧ u.getD (m + 1) 0 = 47) := fun m hm2 => by
         rcases Nat.lt_or_ge m k with h | h
         ·exact hno m h
         ·obtain rfl : m = k := by omega
          rw [hget, hget, ha, show j + 2 + (m + 1) = j + 2 + m + 1 by omega, hb]
          exact hm
        repeat' (first | (apply gL; first | (apply Wl.ev rfl rfl; exact Zel) | apply Wl.nil | (refine Zbb ?_) | ((fail_if_success (apply Wl.chk rfl)); refine Wl.split rfl rfl ?_ ?_ <;> (intro h; try exact Zh))) | (apply lW; first | apply W.seq | (refine W.again (k + 1) ⟨by omega, hno'⟩ Zga Zm Zb) | apply W.region | apply W.block | apply W.blk | apply W.skip | (refine Zbh ?_) | (refine Zv ?_ ?_ <;> (intro h; try exact Zh))))
        all_goals exact Zz
      ·have he : endN u = none := endN_no fun m hm => hno m Zga
       rw [h47, skip_open hh (by rw [hud]; exact he)] at hup
       have e : i + R.1 = j := by rw [← hup]; simp only [up]; omega
       have e2 : R.2 = false := by rw [← hup]; rfl
       rw [e, e2]
       repeat' (first | (apply gL; first | (apply Wl.ev rfl rfl; exact Zev) | apply Wl.nil | (refine Zbb ?_) | ((fail_if_success (apply Wl.chk rfl)); refine Wl.split rfl rfl ?_ ?_ <;> (intro h; try exact Zh))) | (apply lW; first | apply W.seq | apply W.region | (refine Zbm ?_) | (refine Zbc ?_) | (refine Zv ?_ ?_ <;> (intro h; try exact Zh)) | (refine Zdg ?_; intro w hs)))
       exact ret_eq hs rfl
     ·have hdm := by_ne hd2
      have hno : ¬(c = 47 ∧ ((s.drop (j + 1)).head? = some 47 ∨ (s.drop (j + 1)).head? = some 42)) := fun h => by
       have hz : ∀ k, (s.drop (j + 1)).head? = some k → d = k := fun k hk => by
        by_cases h : j + 1 < s.length
        ·rw [drop_at h, hd] at hk
         simpa using hk
        ·rw [List.drop_eq_nil_of_le Zga] at hk
         cases hk
       rcases h.2 with h | h
       ·exact hd1 (hz _ h)
       ·exact hd2 (hz _ h)
      rw [skip_stop hb' hno] at hup
      have e : i + R.1 = j := by rw [← hup]; simp only [up]; omega
      have e2 : R.2 = true := by rw [← hup]; rfl
      rw [e, e2]
      repeat' (first | (apply gL; first | (apply Wl.ev rfl rfl; exact Zcq) | (refine lD 87 ?_; refine wl_call0 rfl rfl has87 rfl (fun w _ => blank10_ok c w) ?_) | (refine lD 88 ?_; refine wl_call0 rfl rfl has88 rfl (fun w _ => at1 _ w Zga) ?_) | apply Wl.nil | ((fail_if_success (apply Wl.chk rfl)); refine Wl.split rfl rfl ?_ ?_ <;> (intro h; try exact Zh))) | (apply lW; first | apply W.seq | apply W.region | apply W.block | apply W.skip | (refine Zv ?_ ?_ <;> (intro h; try exact Zh)) | (refine Zb0 ?_ ?_ <;> (intro h; try exact Zbe)) | (refine Zdg ?_; intro w hs)))
      all_goals exact ret_eq hs rfl
   ·have hcn := by_ne h47
    rw [skip_stop hb' (fun h => h47 h.1)] at hup
    have e : i + R.1 = j := by rw [← hup]; simp only [up]; omega
    have e2 : R.2 = true := by rw [← hup]; rfl
    rw [e, e2]
    repeat' (first | (apply gL; first | (apply Wl.ev rfl rfl; exact Zcq) | (refine lD 87 ?_; refine wl_call0 rfl rfl has87 rfl (fun w _ => blank10_ok c w) ?_) | apply Wl.nil | (refine Zbb ?_) | ((fail_if_success (apply Wl.chk rfl)); refine Wl.split rfl rfl ?_ ?_ <;> (intro h; try exact Zh))) | (apply lW; first | apply W.seq | apply W.region | apply W.block | apply W.skip | (refine Zbc ?_) | (refine Zv ?_ ?_ <;> (intro h; try exact Zh)) | (refine Zb0 ?_ ?_ <;> (intro h; try exact Zbe)) | (refine Zdg ?_; intro w hs)))
    all_goals exact ret_eq hs rfl
 ·obtain rfl : j = s.length := by omega
  rw [List.drop_length, skip_nil] at hup
  have e : i + R.1 = s.length := by rw [← hup]; simp only [up]; omega
  have e2 : R.2 = true := by rw [← hup]; rfl
  rw [e, e2]
  repeat' (first | (apply gL; first | (apply Wl.ev rfl rfl; exact Zev) | apply Wl.nil) | (apply lW; first | apply W.seq | apply W.region | (refine Zbm ?_) | (refine Zv ?_ ?_ <;> (intro h; try exact Zh)) | (refine Zdg ?_; intro w hs)))
  exact ret_eq hs rfl
end Go.Proofs.YtbinaeemcidicaaGreat
namespace Go.Proofs.YtbinaeemcidicaaGreat
open Go.PB Go.RowKit
attribute [local irreducible] Go.Calls
def twoL : List (UInt8 × UInt8) := [(61, 61), (33, 61), (60, 61), (62, 61), (38, 38), (124, 124), (43, 43), (45, 45), (43, 61), (45, 61), (42, 61), (47, 61), (61, 61)]
def oneL : List UInt8 := [40, 41, 91, 93, 123, 125, 46, 44, 59, 58, 63, 43, 45, 42, 47, 60, 62, 61, 33, 35]
theorem sign_spec (c d : UInt8) : (signN c d = 2 ↔ (c, d) ∈ twoL) ∧ (signN c d ≠ 2 → (signN c d = 1 ↔ c ∈ oneL)) := by
 unfold signN
 by_cases h61 : d = 61
 ·subst h61
  split
  ·rename_i h
   rcases h with rfl | rfl | rfl | rfl | rfl | rfl <;> decide
  ·split
   ·rename_i h
    rcases h with rfl | rfl <;> decide
   ·split
    ·rename_i h
     rcases h with rfl | rfl <;> decide
    ·split
     ·rename_i h
      rcases h with rfl | rfl | rfl | rfl | rfl | rfl | rfl | rfl | rfl | rfl | rfl | rfl <;> decide
     ·rename_i h1 h2 h3 h4
      simp only [not_or] at h1 h2 h3 h4
      simp [twoL, oneL, h1, h2, h3, h4]
 ·by_cases hdc : d = c
  ·subst hdc
   split
   ·rename_i h
    rcases h with rfl | rfl | rfl | rfl | rfl | rfl <;> first | decide | (exfalso; exact h61 rfl)
   ·split
    ·rename_i h
     rcases h with rfl | rfl <;> decide
    ·split
     ·rename_i h
      rcases h with rfl | rfl <;> decide
     ·split
      ·rename_i h
       rcases h with rfl | rfl | rfl | rfl | rfl | rfl | rfl | rfl | rfl | rfl | rfl | rfl <;> decide
      ·rename_i h1 h2 h3 h4
       simp only [not_or] at h1 h2 h3 h4
       simp [twoL, oneL, h1, h2, h3, h4]
  ·have hcd : ∀ k : UInt8, c = k → d ≠ k := fun k h e => hdc (by rw [h, e])
   have htw : (c, d) ∉ twoL := by
    simp only [twoL, List.mem_cons, Prod.mk.injEq, List.not_mem_nil, or_false]
    rintro (h | h | h | h | h | h | h | h | h | h | h | h | h) <;> first | exact h61 h.2 | exact hcd _ h.1 h.2
   split
   ·rename_i h
    refine ⟨⟨fun h => Zhr, fun h => absurd h htw⟩, fun _ => ⟨fun _ => ?_, fun _ => rfl⟩⟩
    rcases h with rfl | rfl | rfl | rfl | rfl | rfl <;> decide
   ·split
    ·rename_i h
     rw [if_neg (fun h : d = 61 ∨ d = c => h.elim h61 hdc)]
     refine ⟨⟨fun h => Zhr, fun h => absurd h htw⟩, fun _ => ⟨fun _ => ?_, fun _ => rfl⟩⟩
     rcases h with rfl | rfl <;> decide
    ·split
     ·rename_i h
      refine ⟨⟨fun h => Zhr, fun h => absurd h htw⟩, fun _ => ⟨fun h => Zhr, fun h2 => ?_⟩⟩
      rcases h with rfl | rfl <;> (exfalso; revert h2; decide)
     ·split
      ·rename_i h
       refine ⟨⟨fun h => Zhr, fun h => absurd h htw⟩, fun _ => ⟨fun _ => ?_, fun _ => rfl⟩⟩
       rcases h with rfl | rfl | rfl | rfl | rfl | rfl | rfl | rfl | rfl | rfl | rfl | rfl <;> decide
      ·rename_i h1 h2 h3 h4
       simp only [not_or] at h1 h2 h3 h4
       simp [twoL, oneL, h1, h2, h3, h4]
def twoV : List Value := twoL.map fun p => st [p.1, p.2]
theorem two_ok (w : World) : Calls Tryz.prog 93 #[] w (Give (.agg twoV.toArray) w) := by
 refine give_of_W (vs := []) Tryz.func93 rfl Tryz.ntmps93 (Nat.le_of_ble_eq_true rfl) (St.nil w _) ?_
 simp only [argL]
 repeat' (first | (apply gL; first | (apply Wl.ev rfl rfl; exact Zev) | apply Wl.nil | (refine Zu ?_; intro b) | (refine Zf8 ?_)) | (apply lW; first | apply W.seq | apply W.region | (refine Zgy ?_; intro w hs)))
 exact ret_eq hs rfl
theorem one_get {j : Nat} (hj : j < 20) : oneL.toArray.size = 20 ∧ (bytV oneL)[j]? = some (by8 (oneL.getD j 0)) := by
 refine ⟨rfl, ?_⟩
 have : j < oneL.length := hj
 simp [bytV, List.getD, this]
theorem oneW_ok (c : UInt8) (w : World) : Calls Tryz.prog 94 #[by8 c] w (Give (.bool (decide (c ∈ oneL))) w) := by
 refine give_of_W (vs := [by8 c]) Tryz.func94 rfl Tryz.ntmps94 (Nat.le_of_ble_eq_true rfl) (St.nil w _) ?_
 simp only [argL]
 repeat' (first | (apply gL; first | (apply Wl.ev rfl rfl; exact Zev) | (refine wl_convOwn rfl rfl (slT rfl) (intT rfl) rfl Ze ?_) | apply Wl.nil | (apply wl_buildSlice rfl rfl (slT rfl) (szT rfl) (zeroT rfl) rfl Zf7 rfl; exact Zq; intro b)) | (apply lW; first | apply W.seq | (refine W.loop (X := Nat) (fun j => [(0, by8 c), (6, .slice (some ⟨b, 0, none⟩) 20 20), (7, .int .i64 20), (8, .int .i64 (j : Nat))]) (fun _ => [⟨b, true, .cells (bytV oneL).toArray 5 (20, 21)⟩]) (fun j => j ≤ 20 ∧ ∀ i, i < j → oneL.getD i 0 ≠ c) (fun j => 20 - j) 0 ⟨Nat.zero_le _, fun i h => absurd h (Nat.not_lt_zero _)⟩ Zm (by repeat (first | exact SubH.nil | apply SubH.keep)) ?_) | apply W.region | apply W.block))
 rintro j ⟨hj, hno⟩
 by_cases hlt : j < 20
 ·have hg := (one_get hlt).2
  obtain ⟨x, hx⟩ : ∃ x, oneL.getD j 0 = x := ⟨_, rfl⟩
  rw [hx] at hg
  by_cases hxc : x = c
  ·have hm : c ∈ oneL := by
    have : j < oneL.length := hlt
    rw [← hxc, ← hx]
    simp [List.getD, this]
   have hxn : (x.toNat : Int) = c.toNat := by rw [hxc]
   repeat' (first | (apply gL; first | (apply Wl.ev rfl rfl; exact Zmk) | apply Wl.nil) | (apply lW; first | apply W.seq | apply W.region | apply W.block | apply W.skip | (refine Zv ?_ ?_ <;> (intro h; try exact Zh)) | (refine Zx ?_; intro w hs)))
   all_goals exact ret_eq hs (congrArg Value.bool (decide_eq_true hm).symm)
  ·have hxn := by_ne hxc
   have hno' : ∀ i, i < j + 1 → oneL.getD i 0 ≠ c := fun i hi => by
    rcases Nat.lt_or_ge i j with h | h
    ·exact hno i h
    ·rw [show i = j by omega, hx]
     exact hxc
   repeat' (first | (apply gL; first | (apply Wl.ev rfl rfl; exact Zmk) | apply Wl.nil) | (apply lW; first | apply W.seq | (refine W.again (j + 1) ⟨by omega, hno'⟩ Zga Zm Zb) | apply W.region | apply W.block | apply W.blk | apply W.skip | (refine Zv ?_ ?_ <;> (intro h; try exact Zh))))
 ·have hm : c ∉ oneL := fun h => by
   obtain ⟨i, hi, he⟩ := List.mem_iff_getElem.1 h
   have hi' : i < 20 := hi
   exact hno i Zga (by simp [List.getD, hi, he])
  repeat' (first | (apply gL; first | (apply Wl.ev rfl rfl; exact Zev) | apply Wl.nil) | (apply lW; first | apply W.seq | apply W.region | (refine Zbm ?_) | (refine Zv ?_ ?_ <;> (intro h; try exact Zh)) | (refine Zx ?_; intro w hs)))
  exact ret_eq hs (congrArg Value.bool (decide_eq_false hm).symm)
end Go.Proofs.YtbinaeemcidicaaGreat
