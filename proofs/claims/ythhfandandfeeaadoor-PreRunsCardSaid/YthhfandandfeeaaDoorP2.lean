/- Texts' tokens in plain Lean: what stands between tokens, what a token looks at. No condition. -/
import Derived.Test.YthhfandandfeeaaDoorL1
namespace Go.Proofs.YthhfandandfeeaaDoor
end Go.Proofs.YthhfandandfeeaaDoor
namespace Go.Proofs.YthhfandandfeeaaDoor
/-- tokens one behind another, from a place to the text's end -/
def Ch (s : List UInt8) : Nat → List Tk → Prop
  | i, [] => i ≤ s.length ∧ skipS (s.drop i) = (s.length - i, true)
  | i, t :: l => i ≤ s.length ∧ ∃ q, i ≤ q ∧ q < s.length ∧ skipS (s.drop i) = (q - i, true) ∧ (tokS (s.drop q)).e = 0 ∧ t = tkAt s q ∧ Ch s (q + (tokS (s.drop q)).m) l
theorem ch_of_lex (s : List UInt8) : ∀ (f i : Nat) (acc L : List Tk) (p : Nat), s.length < f + i → i ≤ s.length → lexF s f i acc = (L, 0, p) → ∃ l, L = acc ++ l ∧ Ch s i l
  | 0, i, _, _, _, h, hi, _ => by omega
  | f + 1, i, acc, L, p, h, hi, he => by
    have hsl := skip_le (s.drop i)
    rw [List.length_drop] at hsl
    simp only [lexF] at he
    split at he
    · cases he
    · rename_i h1
      have h1 : (skipS (s.drop i)).2 = true := by simpa using h1
      split at he
      · rename_i h2
        obtain ⟨rfl, _, _⟩ := Prod.mk.injEq .. ▸ he
        exact ⟨[], by simp, hi, by rw [← h1]; exact Prod.ext (by simp only; omega) rfl⟩
      · rename_i h2
        split at he
        · rename_i h3
          have := congrArg (fun x => x.2.1) he
          exact absurd this h3
        · rename_i h3
          have h3 := Decidable.not_not.1 h3
          have h4 := err_tok h3
          obtain ⟨hm1, hm2⟩ := tok_m (s.drop (i + (skipS (s.drop i)).1))
          have hm2 := hm2 h4
          rw [List.length_drop] at hm1
          obtain ⟨l, hl, hc⟩ := ch_of_lex s f _ _ L p (by omega) (by omega) he
          refine ⟨tkAt s (i + (skipS (s.drop i)).1) :: l, by rw [hl]; simp, hi, i + (skipS (s.drop i)).1, by omega, by omega, ?_, h4, rfl, hc⟩
          rw [← h1]
          exact Prod.ext (by simp only; omega) rfl
theorem lex_of_ch {s : List UInt8} : ∀ {l : List Tk} {i : Nat} (acc : List Tk), Ch s i l → acc.length + l.length ≤ 2048 → lexR s i acc = (acc ++ l, 0, 0)
  | [], i, acc, h, _ => by
    obtain ⟨hi, hs⟩ := h
    rw [lexR_eq s i acc hi, hs, if_neg (by simp), if_pos (by simp only; omega)]
    simp
  | t :: l, i, acc, h, hl => by
    obtain ⟨hi, q, h1, h2, h3, h4, rfl, h5⟩ := h
    simp only [List.length_cons] at hl
    have hq : i + (q - i) = q := by omega
    have he : errAt s q acc.length = 0 := by
      unfold errAt
      rw [if_neg (by omega), h4]
    rw [lexR_eq s i acc hi, h3]
    dsimp only
    rw [hq, if_neg (by simp), if_neg (by omega), if_neg (by simp [he]), lex_of_ch (acc ++ [tkAt s q]) h5 (by simp; omega)]
    simp
theorem ch_of_lexS {s : List UInt8} {L : List Tk} {p : Nat} (h : lexS s = (L, 0, p)) : s.length ≤ 8192 ∧ Ch s 0 L ∧ L.length ≤ 2048 := by
  by_cases hl : 8192 < s.length
  · unfold lexS at h
    rw [if_pos hl] at h
    cases h
  · have hlen : ∀ (f i : Nat) (acc : List Tk), acc.length ≤ 2048 → (lexF s f i acc).1.length ≤ 2048 := fun f => by
      induction f with
      | zero => exact fun _ _ h => h
      | succ f ih =>
        intro i acc ha
        simp only [lexF]
        split
        · simp
        · split
          · exact ha
          · split
            · simp
            · rename_i he
              have he := Decidable.not_not.1 he
              refine ih _ _ ?_
              have : acc.length ≠ 2048 := fun hc => by
                have h0 := err_tok he
                unfold errAt at he
                rw [if_pos ⟨.inl h0, hc⟩] at he
                cases he
              simp
              omega
    unfold lexS at h
    rw [if_neg hl] at h
    obtain ⟨l, hl', hc⟩ := ch_of_lex s (s.length + 1) 0 [] L p (by omega) (Nat.zero_le _) h
    have hn := hlen (s.length + 1) 0 [] (by simp)
    rw [h] at hn
    rw [List.nil_append] at hl'
    subst hl'
    exact ⟨by omega, hc, hn⟩
theorem lexS_of_ch {s : List UInt8} {L : List Tk} (hs : s.length ≤ 8192) (h : Ch s 0 L) (hl : L.length ≤ 2048) : lexS s = (L, 0, 0) := by
  rw [lexS_eq hs, lex_of_ch [] h (by simpa using hl)]
  rfl
end Go.Proofs.YthhfandandfeeaaDoor
