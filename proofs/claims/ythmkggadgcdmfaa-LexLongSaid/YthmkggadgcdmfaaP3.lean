/- Texts' tokens in plain Lean: long texts. No condition. -/
import Derived.Test.YthmkggadgcdmfaaL1
namespace Go.Proofs.Ythmkggadgcdmfaa
/-- so many times a sign and a blank -/
def rep : Nat → List UInt8
  | 0 => []
  | n + 1 => 59 :: 32 :: rep n
theorem rep_len : ∀ n, (rep n).length = 2 * n
  | 0 => rfl
  | n + 1 => by simp only [rep, List.length_cons, rep_len n]; omega
theorem rep_drop : ∀ (n j : Nat), j ≤ n → (rep n).drop (2 * j) = rep (n - j)
  | n, 0, _ => by simp
  | 0, j + 1, h => by omega
  | n + 1, j + 1, h => by
    rw [show 2 * (j + 1) = 2 * j + 1 + 1 by omega]
    simp only [rep, List.drop_succ_cons]
    rw [rep_drop n j (by omega)]
    congr 1
    omega
theorem rep_snoc : ∀ n, rep (n + 1) = rep n ++ [59, 32]
  | 0 => rfl
  | n + 1 => by
    show 59 :: 32 :: rep (n + 1) = 59 :: 32 :: (rep n ++ [59, 32])
    rw [rep_snoc n]
theorem rep_skip : ∀ n, skipS (rep n) = (0, true)
  | 0 => skip_nil
  | n + 1 => skip_stop (by decide) (by rintro ⟨h, _⟩; cases h)
theorem rep_tok (n : Nat) : tokS (rep (n + 1)) = ⟨0, 4, 1, 0⟩ := by
  unfold tokS
  simp only [rep, List.getD_cons_zero, List.getD_cons_succ]
  rw [if_neg (by decide), if_neg (by
    rintro (h | h)
    · revert h; decide
    · exact absurd h.1 (by decide)), show signN 59 32 = 1 by decide]
  rfl
theorem rep_lex (N : Nat) : ∀ (k j i : Nat) (acc : List Tk), N - j = k → j ≤ N → acc.length = j → j ≤ 2048 → ((j = 0 ∧ i = 0) ∨ (0 < j ∧ i + 1 = 2 * j)) → ∃ T, lexR (rep N) i acc = (if N ≤ 2048 then (T, 0, 0) else ([], 3, 4096)) ∧ T.length = N := by
  intro k
  induction k with
  | zero =>
    intro j i acc hk hj ha h2 hi
    have hjN : j = N := by omega
    subst hjN
    have hil : i ≤ (rep j).length := by rw [rep_len]; omega
    have hs : skipS ((rep j).drop i) = (2 * j - i, true) := by
      rcases hi with ⟨rfl, rfl⟩ | ⟨h0, h1⟩
      · exact rep_skip 0
      · have hd : (rep j).drop i = 32 :: (rep j).drop (2 * j) := by
          rw [← h1]
          have hlt : i < (rep j).length := by rw [rep_len]; omega
          rw [List.drop_eq_getElem_cons hlt]
          congr 1
          obtain ⟨m, rfl⟩ : ∃ m, j = m + 1 := ⟨j - 1, by omega⟩
          have he : (rep (m + 1))[i]? = (rep m ++ [59, 32])[i]? := by rw [rep_snoc]
          rw [List.getElem?_append_right (by rw [rep_len]; omega), rep_len, show i - 2 * m = 1 by omega, List.getElem?_eq_getElem hlt] at he
          simpa using he
        rw [hd, skip_blank (by decide), rep_drop j j (Nat.le_refl _), Nat.sub_self, rep_skip]
        simp only [up]
        congr 1
        omega
    refine ⟨acc, ?_, ha⟩
    rw [lexR_eq _ _ _ hil, hs, if_neg (by simp), if_pos (by rw [rep_len]; simp only; omega), if_pos h2]
  | succ k ih =>
    intro j i acc hk hj ha h2 hi
    have hil : i ≤ (rep N).length := by rw [rep_len]; omega
    have hs : skipS ((rep N).drop i) = (2 * j - i, true) := by
      rcases hi with ⟨rfl, rfl⟩ | ⟨h0, h1⟩
      · exact rep_skip N
      · have hd : (rep N).drop i = 32 :: (rep N).drop (2 * j) := by
          rw [← h1]
          have hlt : i < (rep N).length := by rw [rep_len]; omega
          rw [List.drop_eq_getElem_cons hlt]
          congr 1
          obtain ⟨m, rfl⟩ : ∃ m, j = m + 1 := ⟨j - 1, by omega⟩
          have he : ((rep N).drop (2 * m))[1]? = (rep (N - m))[1]? := by rw [rep_drop N m (by omega)]
          rw [List.getElem?_drop] at he
          rw [show 2 * m + 1 = i by omega, List.getElem?_eq_getElem hlt, show N - m = (N - m - 1) + 1 by omega] at he
          simpa [rep] using he
        rw [hd, skip_blank (by decide), rep_drop N j (by omega), rep_skip]
        simp only [up]
        congr 1
        omega
    have hq : i + (2 * j - i) = 2 * j := by omega
    have ht : tokS ((rep N).drop (2 * j)) = ⟨0, 4, 1, 0⟩ := by
      rw [rep_drop N j (by omega), show N - j = (N - j - 1) + 1 by omega]
      exact rep_tok _
    rw [lexR_eq _ _ _ hil, hs]
    dsimp only
    rw [hq, if_neg (by simp), if_neg (by rw [rep_len]; omega)]
    by_cases h3 : j = 2048
    · have he : errAt (rep N) (2 * j) acc.length = 3 := by
        unfold errAt
        rw [ht, if_pos ⟨.inl rfl, by omega⟩]
      obtain ⟨T, hT⟩ : ∃ T : List Tk, T.length = N := ⟨List.replicate N ⟨0, [], 0, 0, 0⟩, by simp⟩
      refine ⟨T, ?_, hT⟩
      rw [he, if_pos (by decide), if_neg (by omega), h3]
    · have he : errAt (rep N) (2 * j) acc.length = 0 := by
        unfold errAt
        rw [ht, if_neg (by omega)]
      rw [he, if_neg (by simp), ht]
      exact ih (j + 1) (2 * j + 1) _ (by omega) (by omega) (by simp [ha]) (by omega) (.inr ⟨by omega, by omega⟩)
theorem long_lex (N : Nat) (h : N ≤ 4000) : ∃ T, lexS (rep N) = (if N ≤ 2048 then (T, 0, 0) else ([], 3, 4096)) ∧ T.length = N := by
  rw [lexS_eq (by rw [rep_len]; omega)]
  exact rep_lex N N 0 0 [] (by omega) (Nat.zero_le _) rfl (by omega) (.inl ⟨rfl, rfl⟩)
theorem zero_lex (n : Nat) (h : 1 ≤ n) : lexS (List.replicate n 0) = if 8192 < n then ([], 3, 0) else ([], 200, 0) := by
  by_cases hn : 8192 < n
  · unfold lexS
    rw [List.length_replicate, if_pos hn, if_pos hn]
  · rw [if_neg hn, lexS_eq (by simp; omega)]
    obtain ⟨m, rfl⟩ : ∃ m, n = m + 1 := ⟨n - 1, by omega⟩
    have hs : skipS (List.replicate (m + 1) 0) = (0, true) := skip_stop (by decide) (by rintro ⟨h, _⟩; cases h)
    have h0 : ∀ k, (List.replicate (m + 1) (0 : UInt8)).getD k 0 = 0 := fun k => by
      simp only [List.getD, List.getElem?_replicate]
      split <;> rfl
    have ht : tokS (List.replicate (m + 1) 0) = ⟨200, 0, 0, 0⟩ := by
      unfold tokS
      rw [h0, h0]
      rw [if_neg (by decide), if_neg (by decide), if_pos (by decide)]
    rw [lexR_eq _ _ _ (Nat.zero_le _), List.drop_zero, hs]
    dsimp only
    rw [Nat.add_zero, if_neg (by simp), if_neg (by simp)]
    have he : errAt (List.replicate (m + 1) 0) 0 ([] : List Tk).length = 200 := by
      unfold errAt
      rw [List.drop_zero, ht, if_neg (by simp)]
    rw [he, if_pos (by decide)]
end Go.Proofs.Ythmkggadgcdmfaa
