/- An int's numeral, read as a token. No condition. -/
import Derived.Test.YthhfandandfeeaaDoorS1
import Derived.Test.YthhfandandfeeaaDoorP2
namespace Go.Proofs.YthhfandandfeeaaDoor
theorem dd_rec {n : Nat} (h : ¬n < 10) : Lib.decDigits n = Lib.decDigits (n / 10) ++ [UInt8.ofNat (48 + n % 10)] := by rw [Lib.decDigits, dif_neg h]
theorem dg_of {d : Nat} (h : d < 10) : dgB (UInt8.ofNat (48 + d)) = true ∧ (UInt8.ofNat (48 + d)).toNat - 48 = d := by
  have : d = 0 ∨ d = 1 ∨ d = 2 ∨ d = 3 ∨ d = 4 ∨ d = 5 ∨ d = 6 ∨ d = 7 ∨ d = 8 ∨ d = 9 := by omega
  rcases this with rfl | rfl | rfl | rfl | rfl | rfl | rfl | rfl | rfl | rfl <;> decide
theorem dd_all (n : Nat) : ∀ b ∈ Lib.decDigits n, dgB b = true := by
  induction n using Nat.strongRecOn with
  | _ n ih =>
    by_cases h : n < 10
    · rw [Lib.decDigits_one h]
      intro b hb
      rw [List.mem_singleton] at hb
      rw [hb]
      exact (dg_of h).1
    · rw [dd_rec h]
      intro b hb
      rcases List.mem_append.1 hb with hb | hb
      · exact ih (n / 10) (by omega) b hb
      · rw [List.mem_singleton] at hb
        rw [hb]
        exact (dg_of (by omega)).1
theorem dd_len (n : Nat) : 1 ≤ (Lib.decDigits n).length ∧ (Lib.decDigits n).length ≤ n / 10 + 1 := by
  induction n using Nat.strongRecOn with
  | _ n ih =>
    by_cases h : n < 10
    · rw [Lib.decDigits_one h]
      simp
    · rw [dd_rec h]
      have := ih (n / 10) (by omega)
      simp only [List.length_append, List.length_singleton]
      omega
theorem dd_whole (n : Nat) (hn : n ≤ 32767) : wholeS 32768 (Lib.decDigits n) = n := by
  induction n using Nat.strongRecOn with
  | _ n ih =>
    by_cases h : n < 10
    · rw [Lib.decDigits_one h]
      simp only [wholeS, List.foldl_cons, List.foldl_nil, (dg_of h).2]
      omega
    · rw [dd_rec h]
      have := ih (n / 10) (by omega) (by omega)
      unfold wholeS at this ⊢
      rw [List.foldl_append, this]
      simp only [List.foldl_cons, List.foldl_nil, (dg_of (show n % 10 < 10 by omega)).2]
      omega
theorem dd_head (n : Nat) (hn : 1 ≤ n) : (Lib.decDigits n).getD 0 0 ≠ 48 := by
  induction n using Nat.strongRecOn with
  | _ n ih =>
    by_cases h : n < 10
    · rw [Lib.decDigits_one h]
      have : n = 1 ∨ n = 2 ∨ n = 3 ∨ n = 4 ∨ n = 5 ∨ n = 6 ∨ n = 7 ∨ n = 8 ∨ n = 9 := by omega
      rcases this with rfl | rfl | rfl | rfl | rfl | rfl | rfl | rfl | rfl <;> decide
    · rw [dd_rec h]
      have h1 := ih (n / 10) (by omega) (by omega)
      have h2 := (dd_len (n / 10)).1
      cases hd : Lib.decDigits (n / 10) with
      | nil =>
        rw [hd] at h2
        simp at h2
      | cons c l =>
        rw [hd] at h1
        simpa using h1
theorem run_all {p : UInt8 → Bool} : ∀ {l : List UInt8}, (∀ b ∈ l, p b = true) → runN p l = l.length
  | [], _ => rfl
  | b :: l, h => by
    simp only [runN, h b (List.Mem.head _), if_true, List.length_cons]
    rw [run_all fun c hc => h c (List.Mem.tail _ hc)]
    try omega
theorem dg_facts {b : UInt8} (h : dgB b = true) : blB b = false ∧ leB b = false ∧ b ≠ 47 := by
  have h := dgB_iff.1 h
  refine ⟨?_, ?_, fun e => ?_⟩
  · rw [Bool.eq_false_iff]
    intro hb
    have := blB_iff.1 hb
    omega
  · rw [Bool.eq_false_iff]
    intro hb
    have := leB_iff.1 hb
    omega
  · rw [e] at h
    revert h
    decide
theorem num_lex {n : Nat} (h1 : 1 ≤ n) (h2 : n ≤ 20000) : lexS (Lib.decDigits n) = ([numT n], 0, 0) := by
  obtain ⟨s, hs⟩ : ∃ s, Lib.decDigits n = s := ⟨_, rfl⟩
  have ha := dd_all n
  have hl := dd_len n
  have hw := dd_whole n (by omega)
  have hh := dd_head n h1
  rw [hs] at ha hl hw hh
  have hrun := run_all ha
  have hn : numN s = s.length := by
    unfold numN
    rw [hrun, if_neg (by simp [List.getD])]
  have hd0 : dgB (s.getD 0 0) = true := ha _ (by
    cases s with
    | nil => simp at hl
    | cons c s => exact List.Mem.head _)
  obtain ⟨f1, f2, f3⟩ := dg_facts hd0
  have htok : tokS s = ⟨0, 2, s.length, (n : Int) * 65536⟩ := by
    unfold tokS
    rw [if_neg (by rw [f2]; decide), if_pos (.inl hd0)]
    unfold numS
    have e0 : s.getD s.length 0 = 0 := by simp [List.getD]
    have hp : ¬numP s := by
      unfold numP
      rw [hrun, e0]
      decide
    rw [hn, e0, if_neg (by decide), if_neg (by intro h; exact hh h.2.2), if_neg hp, List.take_length, hw, if_neg (by omega)]
    congr 1
    unfold ofS rawS
    all_goals first | omega | (rw [show max (n:Int) (-65536) = n by omega, show min (n:Int) 65536 = n by omega]; try omega)
  have hsk : skipS s = (0, true) := by
    cases s with
    | nil => simp at hl
    | cons c s => exact skip_stop f1 (fun h => f3 h.1)
  rw [hs]
  have : Ch s 0 [numT n] := by
    refine ⟨Nat.zero_le _, 0, Nat.le_refl _, by omega, ?_, ?_, ?_, ?_⟩
    · simpa using hsk
    · rw [List.drop_zero, htok]
    · unfold tkAt numT
      rw [List.drop_zero, htok, hs]
      simp [nlN]
    · rw [List.drop_zero, htok]
      refine ⟨by simp, ?_⟩
      simp [skip_nil]
  exact lexS_of_ch (by omega) this (by simp)
end Go.Proofs.YthhfandandfeeaaDoor
