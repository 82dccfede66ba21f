/- The text of a number is read as the number; numbers as tokens: in plain Lean. No condition. -/
import Derived.Test.YtbinaeemcidicaaGreatDoorZVF
import Derived.Test.YtbinaeemcidicaaGreatDoorZP5
import Derived.Test.YtbinaeemcidicaaGreatDoorZLS
import Derived.Test.YtbinaeemcidicaaGreatDoorZPM
set_option maxHeartbeats 16000000
namespace Go.Proofs.YtbinaeemcidicaaGreatDoor
open Go.PB Go.RowKit
def numD : List Nat → Nat
 | [] => 0
 | d :: ds => d * 10 ^ ds.length + numD ds
theorem numD_lt : ∀ ds : List Nat, (∀ d ∈ ds, d < 10) → numD ds < 10 ^ ds.length
 | [], _ => by simp [numD]
 | d :: ds, h => by
  have h1 := numD_lt ds (fun e he => h e (by simp [he]))
  have h2 := h d Zgh
  have h3 : (d + 1) * 10 ^ ds.length ≤ 10 * 10 ^ ds.length := Nat.mul_le_mul_right _ Zf7
  simp only [numD, List.length_cons, Nat.pow_succ]
  rw [Nat.add_mul] at h3
  omega
theorem dbl_num : ∀ ds : List Nat, 2 * numD ds = (dbl ds).1 * 10 ^ ds.length + numD (dbl ds).2
 | [] => by simp [numD, dbl]
 | d :: ds => by
  have ih := dbl_num ds
  simp only [numD, dbl, dbl_len, List.length_cons, Nat.pow_succ]
  obtain ⟨c, hc⟩ : ∃ c, (dbl ds).1 = c := ⟨_, rfl⟩
  rw [hc] at ih ⊢
  obtain ⟨p, hp⟩ : ∃ p, 10 ^ ds.length = p := ⟨_, rfl⟩
  rw [hp] at ih ⊢
  have e := Nat.div_add_mod (2 * d + c) 10
  obtain ⟨q, hq⟩ : ∃ q, (2 * d + c) / 10 = q := ⟨_, rfl⟩
  obtain ⟨r, hr⟩ : ∃ r, (2 * d + c) % 10 = r := ⟨_, rfl⟩
  rw [hq, hr] at e ⊢
  have e2 : (10 * q + r) * p = (2 * d + c) * p := by rw [e]
  rw [Nat.add_mul, Nat.add_mul] at e2
  rw [Nat.mul_add, ih, ← Nat.mul_assoc 2 d p]
  rw [show q * (p * 10) = 10 * q * p by rw [Nat.mul_comm p 10, ← Nat.mul_assoc, Nat.mul_comm q 10]]
  omega
theorem binS_zero' (n : Nat) (ds : List Nat) : binS 0 n ds = n := by unfold binS; rfl
theorem binS_succ' (r n : Nat) (ds : List Nat) : binS (r + 1) n ds = binS r (2 * n + (dbl ds).1) (dbl ds).2 := by conv => lhs; unfold binS
theorem binS_num : ∀ (r n : Nat) (ds : List Nat), (∀ d ∈ ds, d < 10) → binS r n ds = n * 2 ^ r + numD ds * 2 ^ r / 10 ^ ds.length
 | 0, n, ds, h => by
  rw [binS_zero', Nat.pow_zero, Nat.mul_one, Nat.mul_one, Nat.div_eq_of_lt (numD_lt ds h)]; rfl
 | r + 1, n, ds, h => by
  rw [binS_succ', binS_num r _ _ (dbl_digit ds), dbl_len]
  have e : numD ds * 2 ^ (r + 1) = numD (dbl ds).2 * 2 ^ r + 10 ^ ds.length * ((dbl ds).1 * 2 ^ r) := by
   rw [Nat.pow_succ, Nat.mul_comm (2 ^ r) 2, ← Nat.mul_assoc, Nat.mul_comm (numD ds) 2, dbl_num, Nat.add_mul, Nat.mul_comm (dbl ds).1, Nat.mul_assoc, Nat.add_comm]
  rw [e, Nat.add_mul_div_left _ _ (Nat.pow_pos Zf7), Nat.pow_succ, Nat.add_mul]
  rw [show 2 * n * 2 ^ r = n * (2 ^ r * 2) by rw [Nat.mul_comm 2 n, Nat.mul_assoc, Nat.mul_comm 2]]
  omega
theorem numD_zeros (z : Nat) : ∀ ds : List Nat, numD (ds ++ List.replicate z 0) = numD ds * 10 ^ z
 | [] => by
  induction z with
  | zero => rfl
  | succ z ih => simp only [List.nil_append, List.replicate_succ, numD] at ih ⊢; omega
 | d :: ds => by
  simp only [List.cons_append, numD, numD_zeros z ds, List.length_append, List.length_replicate, Nat.pow_add, Nat.add_mul, Nat.mul_assoc]
theorem trim_split (l : List UInt8) : ∃ z, l = Lib.trimRightB l 48 ++ List.replicate z 48 := by
 have h := List.takeWhile_append_dropWhile (p := (· == (48 : UInt8))) (l := l.reverse)
 refine ⟨(l.reverse.takeWhile (· == 48)).length, ?_⟩
 have ht : l.reverse.takeWhile (· == 48) = List.replicate (l.reverse.takeWhile (· == 48)).length 48 := by
  rw [List.eq_replicate_iff]
  refine ⟨rfl, fun b hb => ?_⟩
  have := List.all_eq_true.1 (List.all_takeWhile (p := (· == (48 : UInt8))) (l := l.reverse)) b hb
  simpa using this
 have h2 := congrArg List.reverse h
 rw [List.reverse_append, List.reverse_reverse] at h2
 have h3 := congrArg List.reverse ht
 rw [List.reverse_replicate] at h3
 rw [h3] at h2
 exact h2.symm
theorem dig_toNat (j : Nat) (h : j < 10) : (UInt8.ofNat (48 + j)).toNat = 48 + j := by simp [UInt8.toNat_ofNat']; omega
theorem dig_isD (j : Nat) (h : j < 10) : isD (UInt8.ofNat (48 + j)) := by unfold isD; rw [dig_toNat j h]; omega
theorem pad5_isD (k : Nat) (h : k < 100000) : ∀ b ∈ pad5 k, isD b := by
 unfold pad5
 intro b hb
 simp only [List.mem_cons, List.not_mem_nil, or_false] at hb
 rcases hb with rfl | rfl | rfl | rfl | rfl <;> exact dig_isD _ Zf7
theorem pad5_num (k : Nat) (h : k < 100000) : numD (digs (pad5 k)) = k := by
 unfold pad5 digs
 simp only [List.map_cons, List.map_nil, numD, List.length_cons, List.length_nil]
 rw [dig_toNat _ Zf7, dig_toNat _ Zf7, dig_toNat _ Zf7, dig_toNat _ Zf7, dig_toNat _ Zf7]
 omega
theorem bin_trim (k : Nat) (h : k < 100000) : binS 17 0 (digs (Lib.trimRightB (pad5 k) 48)) = k * 131072 / 100000 := by
 obtain ⟨z, hz⟩ := trim_split (pad5 k)
 obtain ⟨T, hT⟩ : ∃ T, Lib.trimRightB (pad5 k) 48 = T := ⟨_, rfl⟩
 rw [hT] at hz ⊢
 have hd := pad5_isD k h
 have hTd : ∀ b ∈ T, isD b := fun b hb => hd b (by rw [hz]; simp [hb])
 have hn := pad5_num k h
 have hl : (pad5 k).length = 5 := by unfold pad5; rfl
 rw [hz] at hl hn
 have e : digs (T ++ List.replicate z 48) = digs T ++ List.replicate z 0 := by simp [digs]
 rw [e, numD_zeros] at hn
 rw [binS_num 17 0 _ (digs_lt hTd), digs_len, Nat.zero_mul, Nat.zero_add]
 simp only [List.length_append, List.length_replicate] at hl
 have hp : 0 < 10 ^ z := Nat.pow_pos Zf7
 rw [← Nat.mul_div_mul_right _ _ hp, ← Nat.pow_add, hl, show numD (digs T) * 2 ^ 17 * 10 ^ z = numD (digs T) * 10 ^ z * 2 ^ 17 by rw [Nat.mul_assoc, Nat.mul_comm (2 ^ 17), ← Nat.mul_assoc], hn]
theorem dd_isD (k : Nat) : ∀ b ∈ Lib.decDigits k, isD b := by
 induction k using Nat.strongRecOn with
 | ind k ih =>
  intro b hb
  by_cases h : k < 10
  ·rw [Lib.decDigits_one h] at hb
   rw [List.mem_singleton.1 hb]; exact dig_isD k h
  ·rw [dd_step h] at hb
   rcases List.mem_append.1 hb with hb | hb
   ·exact ih (k / 10) Zf7 b hb
   ·rw [List.mem_singleton.1 hb]; exact dig_isD _ Zf7
theorem dd_ne (k : Nat) : Lib.decDigits k ≠ [] := by
 rw [Lib.decDigits]; split <;> simp
theorem dd_whole (k : Nat) (hk : k ≤ 65536) : wholeS 65536 (Lib.decDigits k) = k := by
 induction k using Nat.strongRecOn with
 | ind k ih =>
  by_cases h : k < 10
  ·rw [Lib.decDigits_one h]
   simp only [wholeS, List.foldl_cons, List.foldl_nil]
   rw [dig_toNat k h]; omega
  ·rw [dd_step h, wholeS_snoc, ih (k / 10) Zf7 Zf7, dig_toNat _ Zf7]; omega
theorem isD_ne {b : UInt8} (h : isD b) (c : UInt8) (hc : c.toNat < 48) : b ≠ c := by
 rintro rfl; unfold isD at h; omega
theorem cut_at {l m : List UInt8} (h : ∀ b ∈ l, isD b) : cutS (l ++ 46 :: m) 46 = (l, m, true) := by
 have h0 : 0 ≤ Lib.indexByte (l ++ 46 :: m) 46 := Decidable.byContradiction fun hn => idx_no hn Zgh
 obtain ⟨e, hall⟩ := idx_at h0
 unfold cutS
 rw [if_pos h0]
 obtain ⟨i, hi⟩ : ∃ i, (Lib.indexByte (l ++ 46 :: m) 46).toNat = i := ⟨_, rfl⟩
 rw [hi] at e hall ⊢
 have hil : i = l.length := by
  have hlt : i < (l ++ 46 :: m).length := by
   refine Nat.lt_of_not_le fun hge => ?_
   rw [List.take_of_length_le hge] at e
   have := congrArg List.length e
   rw [List.length_append (bs := 46 :: _)] at this
   simp at this
  rcases Nat.lt_trichotomy i l.length with hc | hc | hc
  ·have h1 : (l ++ 46 :: m)[i]? = some 46 := by
    have ht : ((l ++ 46 :: m).take i).length = i := by rw [List.length_take]; omega
    conv => lhs; rw [e]
    rw [List.getElem?_append_right Zf7, ht, Nat.sub_self]
    rfl
   rw [List.getElem?_append_left hc, List.getElem?_eq_getElem hc] at h1
   exact absurd (Option.some.inj h1) (isD_ne (h _ (List.getElem_mem hc)) 46 Zf6)
  ·exact hc
  ·have : (46 : UInt8) ∈ (l ++ 46 :: m).take i := by
    rw [List.take_append]
    have : 0 < i - l.length := by omega
    obtain ⟨j, hj⟩ : ∃ j, i - l.length = j + 1 := ⟨i - l.length - 1, by omega⟩
    rw [hj]; simp
   exact absurd rfl (hall _ this)
 subst hil
 simp
end Go.Proofs.YtbinaeemcidicaaGreatDoor
namespace Go.Proofs.YtbinaeemcidicaaGreatDoor
theorem dg_isD {b : UInt8} (h : isD b) : dgB b = true := dgB_iff.2 h
theorem run_whole {p : UInt8 → Bool} {l : List UInt8} (h : ∀ b ∈ l, p b = true) : runN p l = l.length :=
 runN_at p l l.length (Nat.le_refl _) (fun j hj => h _ (by simp only [List.getD, List.getElem?_eq_getElem hj, Option.getD_some]; exact List.getElem_mem hj)) (fun e => by omega)
theorem run_dot {l m : List UInt8} (h : ∀ b ∈ l, isD b) : runN dgB (l ++ 46 :: m) = l.length :=
 runN_at dgB _ l.length Zgh (fun j hj => dg_isD (h _ (by
  simp only [List.getD, List.getElem?_append_left hj, List.getElem?_eq_getElem hj, Option.getD_some]; exact List.getElem_mem hj))) (fun _ => by
  simp only [List.getD]
  rw [List.getElem?_append_right (Nat.le_refl _), Nat.sub_self]
  rfl)
theorem isD_facts {b : UInt8} (h : isD b) : blB b = false ∧ leB b = false ∧ b ≠ 47 := by
 unfold isD at h
 refine ⟨?_, ?_, fun e => ?_⟩
 ·rw [Bool.eq_false_iff]
  intro hb
  have := blB_iff.1 hb
  omega
 ·rw [Bool.eq_false_iff]
  intro hb
  have := leB_iff.1 hb
  omega
 ·rw [e] at h
  revert h
  decide
theorem parse_dot {D pa : List UInt8} {x : Int} (hD : ∀ b ∈ D, isD b) (hne : D ≠ []) (hp : ∀ b ∈ pa, isD b) (hl : (D ++ 46 :: pa).length ≤ 40) (hx : x ≤ 2147483647) (hx0 : 0 ≤ x) (h : (((wholeS 65536 D * 131072 + binS 17 0 (digs pa) + 1) / 2 : Nat) : Int) = x) : parseS (D ++ 46 :: pa) = (x, 0) := by
 have hh : (D ++ 46 :: pa).head? ≠ some 45 := by
  rcases D with _ | ⟨b, D⟩
  ·exact absurd rfl hne
  ·simp only [List.cons_append, List.head?_cons, ne_eq, Option.some.injEq]
   exact isD_ne (hD b Zgh) 45 Zf6
 unfold parseS
 rw [if_neg Zf7]
 simp only [if_neg hh, cut_at hD]
 rw [if_neg (by simp [hne]), if_neg (not_not_intro (fun b hb => (List.mem_append.1 hb).elim (hD b) (hp b))), h]
 unfold rawS
 congr 1
 omega
theorem flo_form (x : Int) (h : 0 ≤ x ∧ x ≤ 2147483647) : ∃ pa, floS x = Lib.decDigits (x.toNat / 65536) ++ 46 :: pa ∧ (∀ b ∈ pa, isD b) ∧ pa.length ≤ 5 ∧ pa ≠ [] ∧ binS 17 0 (digs pa) = fracS x.toNat * 131072 / 100000 := by
 have hM : x.natAbs = x.toNat := by omega
 have hF := fracS_lt x.toNat
 have hpd := pad5_isD (fracS x.toNat) hF
 have hbt := bin_trim (fracS x.toNat) hF
 have htx : textS x = Lib.decDigits (x.toNat / 65536) ++ tailS x.toNat := by unfold textS; rw [if_neg Zf7, hM]; rfl
 have hTd : ∀ b ∈ Lib.trimRightB (pad5 (fracS x.toNat)) 48, isD b := by
  obtain ⟨z, hz⟩ := trim_split (pad5 (fracS x.toNat))
  exact fun b hb => hpd b (by rw [hz]; simp [hb])
 unfold floS
 by_cases h0 : fracS x.toNat = 0
 ·have ht : tailS x.toNat = [] := by unfold tailS; rw [if_pos h0]
  rw [htx, ht, List.append_nil, if_neg]
  ·refine ⟨[48], rfl, ?_, by decide, by decide, ?_⟩
   ·intro b hb
    rw [List.mem_singleton.1 hb]
    unfold isD
    decide
   ·rw [h0, binS_num _ _ _ Zf6]
    decide
  ·intro hi
   have e := (idx_at hi).1
   have : (46 : UInt8) ∈ Lib.decDigits (x.toNat / 65536) := by rw [e]; simp
   exact isD_ne (dd_isD _ _ this) 46 Zf6 rfl
 ·have ht : tailS x.toNat = 46 :: Lib.trimRightB (pad5 (fracS x.toNat)) 48 := by unfold tailS; rw [if_neg h0]
  rw [htx, ht, if_pos (Decidable.byContradiction fun hn => idx_no hn Zgh)]
  refine ⟨_, rfl, hTd, ?_, pad5_ne h0 hF, hbt⟩
  have := trim_len (pad5 (fracS x.toNat)) 48
  have e : (pad5 (fracS x.toNat)).length = 5 := by unfold pad5; rfl
  omega
theorem skip_ne {c : UInt8} {t : List UInt8} (h : blB c = false) (h47 : c ≠ 47) : skipS (c :: t) = (0, true) := skip_stop h fun e => h47 e.1
theorem flo_slf (x : Int) (h : 0 ≤ x ∧ x ≤ 2147483647) : slf (floS x) 3 x := by
 obtain ⟨pa, e, hp, hpl, hpn, hb⟩ := flo_form x h
 have hDd := dd_isD (x.toNat / 65536)
 have hDn := dd_ne (x.toNat / 65536)
 have hDl := (dd5 (x.toNat / 65536) Zf7).1
 have hDw := dd_whole (x.toNat / 65536) Zf7
 rw [e]
 obtain ⟨D, hD⟩ : ∃ D, Lib.decDigits (x.toNat / 65536) = D := ⟨_, rfl⟩
 rw [hD] at hDd hDn hDl hDw ⊢
 obtain ⟨s, hs⟩ : ∃ s, D ++ 46 :: pa = s := ⟨_, rfl⟩
 have hlen : s.length = D.length + 1 + pa.length := by rw [← hs]; simp; omega
 have hrun : runN dgB s = D.length := by rw [← hs]; exact run_dot hDd
 have hat : s.getD D.length 0 = 46 := by
  rw [← hs]
  simp only [List.getD]
  rw [List.getElem?_append_right (Nat.le_refl _), Nat.sub_self]
  rfl
 have hdrop : s.drop (D.length + 1) = pa := by
  rw [← hs]
  simp
 have hnum : numN s = s.length := by
  unfold numN
  rw [hrun, hat, if_pos rfl, hdrop, run_whole (fun b hb => dg_isD (hp b hb)), hlen]
 have hnp : numP s := by
  unfold numP
  rw [hrun, hat]
 have hpar : parseS s = (x, 0) := by
  rw [← hs]
  refine parse_dot hDd hDn hp (by rw [hs]; omega) h.2 h.1 ?_
  rw [hDw, hb]
  unfold fracS
  omega
 obtain ⟨c, t, hc⟩ : ∃ c t, s = c :: t := by
  cases hsc : s with
  | nil => rw [hsc, List.length_nil] at hlen; omega
  | cons c t => exact ⟨c, t, rfl⟩
 have hcd : isD c := by
  cases hDc : D with
  | nil => exact absurd hDc hDn
  | cons d D' =>
   rw [hDc, List.cons_append, hc] at hs
   have : d = c := (List.cons.inj hs).1
   rw [← this]
   exact hDd d (by rw [hDc]; exact List.mem_cons_self ..)
 obtain ⟨f1, f2, f3⟩ := isD_facts hcd
 have hg0 : s.getD 0 0 = c := by rw [hc]; rfl
 rw [hs]
 refine ⟨by omega, by rw [hc]; simp, by rw [hc]; exact skip_ne f1 f3, ?_⟩
 unfold tokS
 rw [hg0, if_neg (by rw [f2]; decide), if_pos (.inl (dg_isD hcd))]
 unfold numS
 rw [hnum, show s.getD s.length 0 = 0 by simp [List.getD], if_neg Zf6, if_neg (fun e => e.1 hnp), if_pos hnp, List.take_length, hpar]
theorem dd_whole3 (k : Nat) (hk : k ≤ 32768) : wholeS 32768 (Lib.decDigits k) = k := by
 induction k using Nat.strongRecOn with
 | ind k ih =>
  by_cases h : k < 10
  ·rw [Lib.decDigits_one h]
   simp only [wholeS, List.foldl_cons, List.foldl_nil]
   rw [dig_toNat k h]; omega
  ·rw [dd_step h, wholeS_snoc, ih (k / 10) Zf7 Zf7, dig_toNat _ Zf7]; omega
theorem dd_first (n : Nat) (hn : 1 ≤ n) : (Lib.decDigits n).getD 0 0 ≠ 48 := by
 induction n using Nat.strongRecOn with
 | _ n ih =>
  by_cases h : n < 10
  ·rw [Lib.decDigits_one h]
   have : n = 1 ∨ n = 2 ∨ n = 3 ∨ n = 4 ∨ n = 5 ∨ n = 6 ∨ n = 7 ∨ n = 8 ∨ n = 9 := by omega
   rcases this with rfl | rfl | rfl | rfl | rfl | rfl | rfl | rfl | rfl <;> decide
  ·rw [dd_step h]
   have h1 := ih (n / 10) Zf7 Zf7
   have h2 := dd_ne (n / 10)
   cases hd : Lib.decDigits (n / 10) with
   | nil => exact absurd hd h2
   | cons c l =>
    rw [hd] at h1
    simpa using h1
theorem int_slf (x : Int) (h : 0 ≤ x ∧ x ≤ 2147483647) (hm : x % 65536 = 0) : slf (intS x) 2 x := by
 unfold intS
 have hDd := dd_isD (x.toNat / 65536)
 have hDn := dd_ne (x.toNat / 65536)
 have hDl := (dd5 (x.toNat / 65536) Zf7).1
 have hDw := dd_whole3 (x.toNat / 65536) Zf7
 have hDf := dd_first (x.toNat / 65536)
 have hD1 : x.toNat / 65536 = 0 → (Lib.decDigits (x.toNat / 65536)).length = 1 := fun e => by rw [e, Lib.decDigits_one Zf6]; rfl
 obtain ⟨s, hs⟩ : ∃ D, Lib.decDigits (x.toNat / 65536) = D := ⟨_, rfl⟩
 rw [hs] at hDd hDn hDl hDw hDf hD1 ⊢
 have hrun : runN dgB s = s.length := run_whole (fun b hb => dg_isD (hDd b hb))
 have h0 : s.getD s.length 0 = 0 := by simp [List.getD]
 have hnum : numN s = s.length := by
  unfold numN
  rw [hrun, h0, if_neg Zf6]
 have hnp : ¬numP s := by
  unfold numP
  rw [hrun, h0]
  decide
 obtain ⟨c, t, hc⟩ : ∃ c t, s = c :: t := by
  cases hsc : s with
  | nil => exact absurd hsc hDn
  | cons c t => exact ⟨c, t, rfl⟩
 have hcd : isD c := hDd c (by rw [hc]; exact List.mem_cons_self ..)
 obtain ⟨f1, f2, f3⟩ := isD_facts hcd
 have hg0 : s.getD 0 0 = c := by rw [hc]; rfl
 refine ⟨by omega, hDn, by rw [hc]; exact skip_ne f1 f3, ?_⟩
 unfold tokS
 rw [hg0, if_neg (by rw [f2]; decide), if_pos (.inl (dg_isD hcd))]
 unfold numS
 rw [hnum, h0, if_neg Zf6, if_neg, if_neg hnp, List.take_length, hDw, if_neg Zf7]
 ·unfold ofS rawS
  congr 1
  omega
 ·rintro ⟨_, e2, e3⟩
  by_cases hz : x.toNat / 65536 = 0
  ·have := hD1 hz
   omega
  ·exact hDf Zf7 e3
theorem word_slf {w : List UInt8} (h : wordB w = true) : slf w 1 0 := by
 unfold wordB at h
 simp only [Bool.and_eq_true, decide_eq_true_eq, List.all_eq_true] at h
 obtain ⟨⟨⟨h1, h2⟩, h3⟩, h4⟩ := h
 cases w with
 | nil => cases h1
 | cons c t =>
  have h3 : leB c = true := h3
  have hl := leB_iff.1 h3
  have hb : blB c = false := by
   rw [Bool.eq_false_iff]
   intro e
   have := blB_iff.1 e
   omega
  have h47 : c ≠ 47 := fun e => by
   rw [e] at h3
   revert h3
   decide
  refine ⟨by omega, by simp, skip_ne hb h47, ?_⟩
  unfold tokS
  rw [show (c :: t).getD 0 0 = c from rfl, if_pos h3, run_whole h4, if_neg Zf7]
def LexOk (l : List Ti) : Prop := ∀ t ∈ l, slfB (t.k, t.t, t.x) = true ∧ erT t = t
theorem LexOk.nil : LexOk [] := fun _ h => by cases h
theorem LexOk.cons {t : Ti} {l : List Ti} (h : slfB (t.k, t.t, t.x) = true) (hl : LexOk l) (he : erT t = t := by rfl) : LexOk (t :: l) := fun u hu => by
 rcases List.mem_cons.1 hu with rfl | hu
 ·exact ⟨h, he⟩
 ·exact hl u hu
theorem LexOk.app {a b : List Ti} (ha : LexOk a) (hb : LexOk b) : LexOk (a ++ b) := fun u hu => (List.mem_append.1 hu).elim (ha u) (hb u)
theorem LexOk.com : ∀ {L : List (List Ti)}, (∀ l ∈ L, LexOk l) → LexOk (comL L)
 | [], _ => .nil
 | [a], h => h a (List.mem_cons_self ..)
 | a :: b :: l, h => .app (h a (List.mem_cons_self ..)) (.cons Zj (LexOk.com fun x hx => h x (List.mem_cons_of_mem _ hx)))
theorem LexOk.flat {L : List (List Ti)} (h : ∀ l ∈ L, LexOk l) : LexOk L.flatten := fun u hu => by
 obtain ⟨l, hl, hu⟩ := List.mem_flatten.1 hu
 exact h l hl u hu
theorem LexOk.wd {w : List UInt8} (h : wordB w = true) {l : List Ti} (hl : LexOk l) : LexOk (wd w :: l) := .cons (slfB_iff.2 (word_slf h)) hl
theorem LexOk.nam {w : List UInt8} (h : namB w = true) {l : List Ti} (hl : LexOk l) : LexOk (Go.Proofs.YtbinaeemcidicaaGreatDoor.wd w :: l) := .wd (nam_word h).1 hl
theorem word_in {w : List UInt8} {L : List (List UInt8)} (h : w ∈ L) (hl : L.all wordB = true) : wordB w = true := List.all_eq_true.1 hl w h
theorem LexOk.typ {w : List UInt8} (h : isTyp w = true) {l : List Ti} (hl : LexOk l) : LexOk (Go.Proofs.YtbinaeemcidicaaGreatDoor.wd w :: l) := .wd (word_in (L := typW) (by unfold isTyp at h; exact List.contains_iff_mem.1 h) Zf6) hl
theorem LexOk.sgn {w : List UInt8} {L : List (List UInt8)} (h : w ∈ L) (hL : (L.all fun u => slfB (4, u, 0)) = true) {l : List Ti} (hl : LexOk l) : LexOk (sg w :: l) := .cons (List.all_eq_true.1 hL w h) hl
theorem asg_slf : (asgW.all fun u => slfB (4, u, 0)) = true := by kernel_rfl
theorem lev_slf : ∀ {k : Nat}, k < 6 → ((levW k).all fun u => slfB (4, u, 0)) = true
 | 0, _ => by kernel_rfl
 | 1, _ => by kernel_rfl
 | 2, _ => by kernel_rfl
 | 3, _ => by kernel_rfl
 | 4, _ => by kernel_rfl
 | 5, _ => by kernel_rfl
 | k + 6, h => by omega
theorem un_slf : (([[45], [33]] : List (List UInt8)).all fun u => slfB (4, u, 0)) = true := by kernel_rfl
end Go.Proofs.YtbinaeemcidicaaGreatDoor
