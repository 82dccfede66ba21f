/- Walks of functions of this seat, and what they compute: lemmas for the proofs of its statements. No condition. -/
import Derived.Test.YtjeaglhjbadadaaDoorT4
import Derived.Test.YtjeaglhjbadadaaDoorR6
namespace Go.Proofs.YtjeaglhjbadadaaDoor
open Go.PB Go.RowKit
/-- the number of a row of digits -/
def numD : List Nat → Nat
  | [] => 0
  | d :: ds => d * 10 ^ ds.length + numD ds
theorem numD_lt : ∀ ds : List Nat, (∀ d ∈ ds, d < 10) → numD ds < 10 ^ ds.length
  | [], _ => by simp [numD]
  | d :: ds, h => by
    have h1 := numD_lt ds (fun e he => h e (by simp [he]))
    have h2 := h d (by simp)
    have h3 : (d + 1) * 10 ^ ds.length ≤ 10 * 10 ^ ds.length := Nat.mul_le_mul_right _ (by omega)
    simp only [numD, List.length_cons, Nat.pow_succ]
    rw [Nat.add_mul] at h3
    omega
theorem dbl_num : ∀ ds : List Nat, 2 * numD ds = (dbl ds).1 * 10 ^ ds.length + numD (dbl ds).2
  | [] => by simp [numD, dbl]
  | d :: ds => by
    have ih := dbl_num ds
    simp only [numD, dbl, dbl_len, List.length_cons, Nat.pow_succ]
    obtain ⟨c, hc⟩ : ∃ c, (dbl ds).1 = c := ⟨_, rfl⟩
    rw [hc] at ih ⊢
    obtain ⟨p, hp⟩ : ∃ p, 10 ^ ds.length = p := ⟨_, rfl⟩
    rw [hp] at ih ⊢
    have e := Nat.div_add_mod (2 * d + c) 10
    obtain ⟨q, hq⟩ : ∃ q, (2 * d + c) / 10 = q := ⟨_, rfl⟩
    obtain ⟨r, hr⟩ : ∃ r, (2 * d + c) % 10 = r := ⟨_, rfl⟩
    rw [hq, hr] at e ⊢
    have e2 : (10 * q + r) * p = (2 * d + c) * p := by rw [e]
    rw [Nat.add_mul, Nat.add_mul] at e2
    rw [Nat.mul_add, ih, ← Nat.mul_assoc 2 d p]
    rw [show q * (p * 10) = 10 * q * p by rw [Nat.mul_comm p 10, ← Nat.mul_assoc, Nat.mul_comm q 10]]
    omega
theorem binS_zero' (n : Nat) (ds : List Nat) : binS 0 n ds = n := by unfold binS; rfl
theorem binS_succ' (r n : Nat) (ds : List Nat) : binS (r + 1) n ds = binS r (2 * n + (dbl ds).1) (dbl ds).2 := by conv => lhs; unfold binS
theorem binS_num : ∀ (r n : Nat) (ds : List Nat), (∀ d ∈ ds, d < 10) → binS r n ds = n * 2 ^ r + numD ds * 2 ^ r / 10 ^ ds.length
  | 0, n, ds, h => by
    rw [binS_zero', Nat.pow_zero, Nat.mul_one, Nat.mul_one, Nat.div_eq_of_lt (numD_lt ds h)]; rfl
  | r + 1, n, ds, h => by
    rw [binS_succ', binS_num r _ _ (dbl_digit ds), dbl_len]
    have e : numD ds * 2 ^ (r + 1) = numD (dbl ds).2 * 2 ^ r + 10 ^ ds.length * ((dbl ds).1 * 2 ^ r) := by
      rw [Nat.pow_succ, Nat.mul_comm (2 ^ r) 2, ← Nat.mul_assoc, Nat.mul_comm (numD ds) 2, dbl_num, Nat.add_mul, Nat.mul_comm (dbl ds).1, Nat.mul_assoc, Nat.add_comm]
    rw [e, Nat.add_mul_div_left _ _ (Nat.pow_pos (by omega)), Nat.pow_succ, Nat.add_mul]
    rw [show 2 * n * 2 ^ r = n * (2 ^ r * 2) by rw [Nat.mul_comm 2 n, Nat.mul_assoc, Nat.mul_comm 2]]
    omega
theorem numD_zeros (z : Nat) : ∀ ds : List Nat, numD (ds ++ List.replicate z 0) = numD ds * 10 ^ z
  | [] => by
    induction z with
    | zero => rfl
    | succ z ih => simp only [List.nil_append, List.replicate_succ, numD] at ih ⊢; omega
  | d :: ds => by
    simp only [List.cons_append, numD, numD_zeros z ds, List.length_append, List.length_replicate, Nat.pow_add, Nat.add_mul, Nat.mul_assoc]
/-- a row of digits, its ending zeros taken off -/
theorem trim_split (l : List UInt8) : ∃ z, l = Lib.trimRightB l 48 ++ List.replicate z 48 := by
  have h := List.takeWhile_append_dropWhile (p := (· == (48 : UInt8))) (l := l.reverse)
  refine ⟨(l.reverse.takeWhile (· == 48)).length, ?_⟩
  have ht : l.reverse.takeWhile (· == 48) = List.replicate (l.reverse.takeWhile (· == 48)).length 48 := by
    rw [List.eq_replicate_iff]
    refine ⟨rfl, fun b hb => ?_⟩
    have := List.all_eq_true.1 (List.all_takeWhile (p := (· == (48 : UInt8))) (l := l.reverse)) b hb
    simpa using this
  have h2 := congrArg List.reverse h
  rw [List.reverse_append, List.reverse_reverse] at h2
  have h3 := congrArg List.reverse ht
  rw [List.reverse_replicate] at h3
  rw [h3] at h2
  exact h2.symm
theorem dig_toNat (j : Nat) (h : j < 10) : (UInt8.ofNat (48 + j)).toNat = 48 + j := by simp [UInt8.toNat_ofNat']; omega
theorem dig_isD (j : Nat) (h : j < 10) : isD (UInt8.ofNat (48 + j)) := by unfold isD; rw [dig_toNat j h]; omega
theorem pad5_isD (k : Nat) (h : k < 100000) : ∀ b ∈ pad5 k, isD b := by
  unfold pad5
  intro b hb
  simp only [List.mem_cons, List.not_mem_nil, or_false] at hb
  rcases hb with rfl | rfl | rfl | rfl | rfl <;> exact dig_isD _ (by omega)
theorem pad5_num (k : Nat) (h : k < 100000) : numD (digs (pad5 k)) = k := by
  unfold pad5 digs
  simp only [List.map_cons, List.map_nil, numD, List.length_cons, List.length_nil]
  rw [dig_toNat _ (by omega), dig_toNat _ (by omega), dig_toNat _ (by omega), dig_toNat _ (by omega), dig_toNat _ (by omega)]
  omega
theorem bin_trim (k : Nat) (h : k < 100000) : binS 17 0 (digs (Lib.trimRightB (pad5 k) 48)) = k * 131072 / 100000 := by
  obtain ⟨z, hz⟩ := trim_split (pad5 k)
  obtain ⟨T, hT⟩ : ∃ T, Lib.trimRightB (pad5 k) 48 = T := ⟨_, rfl⟩
  rw [hT] at hz ⊢
  have hd := pad5_isD k h
  have hTd : ∀ b ∈ T, isD b := fun b hb => hd b (by rw [hz]; simp [hb])
  have hn := pad5_num k h
  have hl : (pad5 k).length = 5 := by unfold pad5; rfl
  rw [hz] at hl hn
  have e : digs (T ++ List.replicate z 48) = digs T ++ List.replicate z 0 := by simp [digs]
  rw [e, numD_zeros] at hn
  rw [binS_num 17 0 _ (digs_lt hTd), digs_len, Nat.zero_mul, Nat.zero_add]
  simp only [List.length_append, List.length_replicate] at hl
  have hp : 0 < 10 ^ z := Nat.pow_pos (by omega)
  rw [← Nat.mul_div_mul_right _ _ hp, ← Nat.pow_add, hl, show numD (digs T) * 2 ^ 17 * 10 ^ z = numD (digs T) * 10 ^ z * 2 ^ 17 by rw [Nat.mul_assoc, Nat.mul_comm (2 ^ 17), ← Nat.mul_assoc], hn]
theorem dd_isD (k : Nat) : ∀ b ∈ Lib.decDigits k, isD b := by
  induction k using Nat.strongRecOn with
  | ind k ih =>
    intro b hb
    by_cases h : k < 10
    · rw [Lib.decDigits_one h] at hb
      rw [List.mem_singleton.1 hb]; exact dig_isD k h
    · rw [dd_step h] at hb
      rcases List.mem_append.1 hb with hb | hb
      · exact ih (k / 10) (by omega) b hb
      · rw [List.mem_singleton.1 hb]; exact dig_isD _ (by omega)
theorem dd_ne (k : Nat) : Lib.decDigits k ≠ [] := by
  rw [Lib.decDigits]; split <;> simp
theorem dd_whole (k : Nat) (hk : k ≤ 65536) : wholeS 65536 (Lib.decDigits k) = k := by
  induction k using Nat.strongRecOn with
  | ind k ih =>
    by_cases h : k < 10
    · rw [Lib.decDigits_one h]
      simp only [wholeS, List.foldl_cons, List.foldl_nil]
      rw [dig_toNat k h]; omega
    · rw [dd_step h, wholeS_snoc, ih (k / 10) (by omega) (by omega), dig_toNat _ (by omega)]; omega
theorem isD_ne {b : UInt8} (h : isD b) (c : UInt8) (hc : c.toNat < 48) : b ≠ c := by
  rintro rfl; unfold isD at h; omega
theorem cut_no {l : List UInt8} (h : ∀ b ∈ l, isD b) : cutS l 46 = (l, [], false) := by
  unfold cutS
  rw [if_neg]
  intro h0
  have e := (idx_at h0).1
  have : (46 : UInt8) ∈ l := by rw [e]; simp
  exact isD_ne (h _ this) 46 (by decide) rfl
theorem cut_at {l m : List UInt8} (h : ∀ b ∈ l, isD b) : cutS (l ++ 46 :: m) 46 = (l, m, true) := by
  have h0 : 0 ≤ Lib.indexByte (l ++ 46 :: m) 46 := Decidable.byContradiction fun hn => idx_no hn (by simp)
  obtain ⟨e, hall⟩ := idx_at h0
  unfold cutS
  rw [if_pos h0]
  obtain ⟨i, hi⟩ : ∃ i, (Lib.indexByte (l ++ 46 :: m) 46).toNat = i := ⟨_, rfl⟩
  rw [hi] at e hall ⊢
  have hil : i = l.length := by
    have hlt : i < (l ++ 46 :: m).length := by
      refine Nat.lt_of_not_le fun hge => ?_
      rw [List.take_of_length_le hge] at e
      have := congrArg List.length e
      rw [List.length_append (bs := 46 :: _)] at this
      simp at this
    rcases Nat.lt_trichotomy i l.length with hc | hc | hc
    · have h1 : (l ++ 46 :: m)[i]? = some 46 := by
        have ht : ((l ++ 46 :: m).take i).length = i := by rw [List.length_take]; omega
        conv => lhs; rw [e]
        rw [List.getElem?_append_right (by omega), ht, Nat.sub_self]
        rfl
      rw [List.getElem?_append_left hc, List.getElem?_eq_getElem hc] at h1
      exact absurd (Option.some.inj h1) (isD_ne (h _ (List.getElem_mem hc)) 46 (by decide))
    · exact hc
    · have : (46 : UInt8) ∈ (l ++ 46 :: m).take i := by
        rw [List.take_append]
        have : 0 < i - l.length := by omega
        obtain ⟨j, hj⟩ : ∃ j, i - l.length = j + 1 := ⟨i - l.length - 1, by omega⟩
        rw [hj]; simp
      exact absurd rfl (hall _ this)
  subst hil
  simp
theorem parse_text (a : Int) (ha : -2147483648 ≤ a ∧ a ≤ 2147483647) : parseS (textS a) = (a, 0) := by
  obtain ⟨M, hM⟩ : ∃ M, a.natAbs = M := ⟨_, rfl⟩
  have hMr : M ≤ 2147483648 := by omega
  have hF := fracS_lt M
  have hd5 := (dd5 (M / 65536) (by omega)).1
  have hDd := dd_isD (M / 65536)
  have hDne := dd_ne (M / 65536)
  have hDw := dd_whole (M / 65536) (by omega)
  have hpd := pad5_isD (fracS M) hF
  have hbt := bin_trim (fracS M) hF
  have hTl := trim_len (pad5 (fracS M)) 48
  have hpl : (pad5 (fracS M)).length = 5 := by unfold pad5; rfl
  have hTd : ∀ b ∈ Lib.trimRightB (pad5 (fracS M)) 48, isD b := by
    obtain ⟨z, hz⟩ := trim_split (pad5 (fracS M))
    exact fun b hb => hpd b (by rw [hz]; simp [hb])
  have hFd : fracS M = (M % 65536 * 100000 + 32768) / 65536 := by unfold fracS; rfl
  have hres : textS a = (if a < 0 then [45] else []) ++ (Lib.decDigits (M / 65536) ++ tailS M) := by unfold textS; rw [hM, List.append_assoc]
  have htl : tailS M = if fracS M = 0 then [] else 46 :: Lib.trimRightB (pad5 (fracS M)) 48 := rfl
  obtain ⟨F, hFe⟩ : ∃ F, fracS M = F := ⟨_, rfl⟩
  obtain ⟨Dg, hDg⟩ : ∃ Dg, Lib.decDigits (M / 65536) = Dg := ⟨_, rfl⟩
  rw [hFe] at hF hbt hTl hTd htl hFd hpl
  obtain ⟨T, hT⟩ : ∃ T, Lib.trimRightB (pad5 F) 48 = T := ⟨_, rfl⟩
  rw [hDg] at hd5 hDd hDne hDw hres
  rw [hT] at htl hbt hTl hTd
  have hcut : ∃ pa fo, cutS (Dg ++ tailS M) 46 = (Dg, pa, fo) ∧ (∀ b ∈ pa, isD b) ∧ binS 17 0 (digs pa) = F * 131072 / 100000 := by
    rw [htl]
    by_cases h0 : F = 0
    · rw [if_pos h0, List.append_nil, cut_no hDd]
      exact ⟨_, _, rfl, by simp, by rw [h0, binS_num _ _ _ (by simp [digs])]; rfl⟩
    · rw [if_neg h0, cut_at hDd]
      exact ⟨_, _, rfl, hTd, hbt⟩
  obtain ⟨pa, fo, hcut, hpad, hbin⟩ := hcut
  have htlen : (tailS M).length ≤ 6 := by rw [htl]; split <;> simp; omega
  obtain ⟨tl, htl'⟩ : ∃ tl, tailS M = tl := ⟨_, rfl⟩
  rw [htl'] at hcut hres htlen
  have hhead : (Dg ++ tl).head? ≠ some 45 := by
    rcases Dg with _ | ⟨b, Dg⟩
    · exact absurd rfl hDne
    · simp only [List.cons_append, List.head?_cons, ne_eq, Option.some.injEq]
      exact isD_ne (hDd b (by simp)) 45 (by decide)
  have hall : ∀ b ∈ Dg ++ pa, isD b := fun b hb => (List.mem_append.1 hb).elim (hDd b) (hpad b)
  have hnum : ((wholeS 65536 Dg * 131072 + binS 17 0 (digs pa) + 1) / 2 : Nat) = M := by rw [hDw, hbin]; omega
  have hnil : Dg ++ pa ≠ [] := by simp [hDne]
  rw [hres]
  unfold parseS
  by_cases ha0 : a < 0
  · rw [if_pos ha0, if_neg (by simp; omega)]
    simp only [List.singleton_append, List.head?_cons, if_true, List.tail_cons, hcut]
    rw [if_neg hnil, if_neg (not_not_intro hall), hnum]
    unfold rawS
    congr 1
    omega
  · rw [if_neg ha0, if_neg (by simp; omega)]
    simp only [List.nil_append, if_neg hhead, hcut]
    rw [if_neg hnil, if_neg (not_not_intro hall), hnum]
    unfold rawS
    congr 1
    omega
end Go.Proofs.YtjeaglhjbadadaaDoor
