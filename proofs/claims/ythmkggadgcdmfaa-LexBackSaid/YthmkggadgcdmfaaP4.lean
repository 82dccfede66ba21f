/- Texts' tokens in plain Lean: blanks ahead of a token. No condition. -/
import Derived.Test.YthmkggadgcdmfaaP2
namespace Go.Proofs.Ythmkggadgcdmfaa
/-- a token without its place -/
def core (t : Tk) : Int × List UInt8 × Int := (t.k, t.t, t.x)
theorem skip_blanks : ∀ {b : List UInt8} (r : List UInt8), (∀ c ∈ b, blB c = true) → skipS (b ++ r) = up b.length (skipS r)
  | [], r, _ => by simp [up_zero]
  | c :: b, r, h => by
    rw [List.cons_append, skip_blank (h c (List.mem_cons_self ..)), skip_blanks r (fun d hd => h d (List.mem_cons_of_mem _ hd)), up_up, List.length_cons, Nat.add_comm]
theorem skip_at {l : List UInt8} {n : Nat} (h : skipS l = (n, true)) (hn : n < l.length) : skipS (l.drop n) = (0, true) := by
  have := skip_app l.length l (l.drop n) (Nat.le_refl _) (by rw [h]) (by rw [h]; exact hn)
  rw [h] at this
  dsimp only at this
  rw [List.take_append_drop, h] at this
  have h1 := congrArg Prod.fst this
  have h2 := congrArg Prod.snd this
  simp only [up] at h1 h2
  exact Prod.ext (by simp only; omega) h2.symm
theorem ch_at : ∀ {l : List Tk} {s : List UInt8} {i : Nat}, Ch s i l → ∀ t ∈ l, i ≤ t.at_
  | [], _, _, _, t, ht => by cases ht
  | u :: l, s, i, h, t, ht => by
    obtain ⟨_, q, h1, _, _, _, h5, h6⟩ := h
    rcases List.mem_cons.1 ht with rfl | ht
    · rw [h5]; exact h1
    · have := ch_at h6 t ht
      omega
section
variable {s b : List UInt8} {k : Nat}
theorem put_drop (hk : k ≤ s.length) {i : Nat} (hi : i ≤ k) : (s.take k ++ (b ++ s.drop k)).drop i = (s.drop i).take (k - i) ++ (b ++ s.drop k) := by
  rw [List.drop_append_of_le_length (by simp; omega), List.drop_take]
theorem put_drop2 (hk : k ≤ s.length) {q : Nat} (hq : k ≤ q) : (s.take k ++ (b ++ s.drop k)).drop (q + b.length) = s.drop q := by
  have h1 : (s.take k).length = k := by simp; omega
  rw [List.drop_append, h1, List.drop_of_length_le (by rw [h1]; omega), List.nil_append, List.drop_append, List.drop_of_length_le (by omega), List.nil_append, List.drop_drop]
  congr 1
  omega
theorem put_len (hk : k ≤ s.length) : (s.take k ++ (b ++ s.drop k)).length = s.length + b.length := by simp; omega
theorem put_core {p q : Nat} (h : (s.take k ++ (b ++ s.drop k)).drop p = s.drop q) : core (tkAt (s.take k ++ (b ++ s.drop k)) p) = core (tkAt s q) := by
  unfold core tkAt
  rw [h]
theorem put_after (hk : k ≤ s.length) : ∀ {l : List Tk} {i : Nat}, Ch s i l → k ≤ i → ∃ M, Ch (s.take k ++ (b ++ s.drop k)) (i + b.length) M ∧ M.map core = l.map core
  | [], i, h, hi => by
    obtain ⟨h1, h2⟩ := h
    refine ⟨[], ⟨by rw [put_len hk]; omega, ?_⟩, rfl⟩
    rw [put_drop2 hk hi, put_len hk, h2]
    congr 1
    omega
  | t :: l, i, h, hi => by
    obtain ⟨h0, q, h1, h2, h3, h4, rfl, h6⟩ := h
    obtain ⟨M, hM, hc⟩ := put_after hk h6 (by omega)
    refine ⟨tkAt (s.take k ++ (b ++ s.drop k)) (q + b.length) :: M, ⟨by rw [put_len hk]; omega, q + b.length, by omega, by rw [put_len hk]; omega, ?_, ?_, rfl, ?_⟩, ?_⟩
    · rw [put_drop2 hk hi, h3]
      congr 1
      omega
    · rw [put_drop2 hk (by omega)]
      exact h4
    · rw [put_drop2 hk (by omega), show q + b.length + (tokS (s.drop q)).m = q + (tokS (s.drop q)).m + b.length by omega]
      exact hM
    · rw [List.map_cons, List.map_cons, hc, put_core (put_drop2 hk (by omega))]
theorem put_before (hk : k < s.length) (hb : ∀ c ∈ b, blB c = true) (hb0 : b ≠ []) : ∀ {l : List Tk} {i : Nat}, Ch s i l → i ≤ k → (∃ t ∈ l, t.at_ = k) → ∃ M, Ch (s.take k ++ (b ++ s.drop k)) i M ∧ M.map core = l.map core
  | [], _, _, _, h => by obtain ⟨_, h, _⟩ := h; cases h
  | t :: l, i, h, hi, ht => by
    obtain ⟨h0, q, h1, h2, h3, h4, rfl, h6⟩ := h
    have hkl : k ≤ s.length := by omega
    obtain ⟨hm1, hm2⟩ := tok_m (s.drop q)
    have hm2 := hm2 h4
    rw [List.length_drop] at hm1
    have hq0 : skipS (s.drop q) = (0, true) := by
      have := skip_at h3 (by rw [List.length_drop]; omega)
      rwa [List.drop_drop, show i + (q - i) = q by omega] at this
    by_cases hqk : q = k
    · subst hqk
      obtain ⟨M, hM, hc⟩ := put_after (b := b) hkl h6 (by omega)
      refine ⟨tkAt (s.take q ++ (b ++ s.drop q)) (q + b.length) :: M, ⟨by rw [put_len hkl]; omega, q + b.length, by omega, by rw [put_len hkl]; omega, ?_, ?_, rfl, ?_⟩, ?_⟩
      · have := skip_app (s.drop i).length (s.drop i) (b ++ s.drop q) (Nat.le_refl _) (by rw [h3]) (by rw [h3, List.length_drop]; simp only; omega)
        rw [h3] at this
        dsimp only at this
        rw [put_drop hkl hi, this, skip_blanks _ hb, hq0]
        simp only [up]
        congr 1
        omega
      · rw [put_drop2 hkl (Nat.le_refl _)]
        exact h4
      · rw [put_drop2 hkl (Nat.le_refl _), show q + b.length + (tokS (s.drop q)).m = q + (tokS (s.drop q)).m + b.length by omega]
        exact hM
      · rw [List.map_cons, List.map_cons, hc, put_core (put_drop2 hkl (Nat.le_refl _))]
    · have hin : ∃ t ∈ l, t.at_ = k := by
        obtain ⟨t, ht, hk'⟩ := ht
        rcases List.mem_cons.1 ht with rfl | ht
        · exact absurd hk' hqk
        · exact ⟨t, ht, hk'⟩
      have hqm : q + (tokS (s.drop q)).m ≤ k := by
        obtain ⟨t, ht, hk'⟩ := hin
        have := ch_at h6 t ht
        omega
      obtain ⟨M, hM, hc⟩ := put_before hk hb hb0 h6 hqm hin
      obtain ⟨m, hm⟩ : ∃ m, (tokS (s.drop q)).m = m := ⟨_, rfl⟩
      rw [hm] at hqm hm1 hm2 hM
      have hdq : (s.take k ++ (b ++ s.drop k)).drop q = (s.drop q).take m ++ (s.take k ++ (b ++ s.drop k)).drop (q + m) := by
        have e1 : (s.drop q).take (k - q) = (s.drop q).take m ++ (s.drop (q + m)).take (k - (q + m)) := by
          have : (s.drop q).take (k - q) = (s.drop q).take (m + (k - (q + m))) := by congr 1; omega
          rw [this, List.take_add, List.drop_drop]
        rw [put_drop hkl (by omega), put_drop hkl hqm, e1, List.append_assoc]
      have hz : ((s.take k ++ (b ++ s.drop k)).drop (q + m)).getD 0 0 = (s.drop q).getD m 0 ∨ neu (((s.take k ++ (b ++ s.drop k)).drop (q + m)).getD 0 0) := by
        rw [put_drop hkl hqm]
        rcases Nat.lt_or_ge (q + m) k with h | h
        · refine .inl ?_
          simp only [List.getD]
          rw [List.getElem?_append_left (by simp; omega), List.getElem?_take, if_pos (by omega), List.getElem?_drop, List.getElem?_drop]
          rfl
        · refine .inr (.inr ?_)
          rw [show k - (q + m) = 0 by omega, List.take_zero, List.nil_append]
          cases b with
          | nil => exact absurd rfl hb0
          | cons c b => exact hb c (List.mem_cons_self ..)
      have htok : tokS ((s.take k ++ (b ++ s.drop k)).drop q) = tokS (s.drop q) := by
        rw [hdq]
        have := tok_app (l := s.drop q) (r := (s.take k ++ (b ++ s.drop k)).drop (q + m)) h4 (by rw [hm]; exact hz)
        rwa [hm] at this
      have hsk : skipS ((s.take k ++ (b ++ s.drop k)).drop q) = (0, true) := by
        rw [hdq]
        have := skip_tok (l := s.drop q) (r := (s.take k ++ (b ++ s.drop k)).drop (q + m)) (by
          intro e
          have := congrArg List.length e
          simp at this
          omega) hq0 h4 (by rw [hm]; exact hz)
        rwa [hm] at this
      refine ⟨tkAt (s.take k ++ (b ++ s.drop k)) q :: M, ⟨by rw [put_len hkl]; omega, q, h1, by rw [put_len hkl]; omega, ?_, by rw [htok]; exact h4, rfl, by rw [htok, hm]; exact hM⟩, ?_⟩
      · have := skip_app (s.drop i).length (s.drop i) ((s.take k ++ (b ++ s.drop k)).drop q) (Nat.le_refl _) (by rw [h3]) (by rw [h3, List.length_drop]; simp only; omega)
        rw [h3] at this
        dsimp only at this
        have hdi : (s.take k ++ (b ++ s.drop k)).drop i = (s.drop i).take (q - i) ++ (s.take k ++ (b ++ s.drop k)).drop q := by
          have e1 : (s.drop i).take (k - i) = (s.drop i).take (q - i) ++ (s.drop q).take (k - q) := by
            have : (s.drop i).take (k - i) = (s.drop i).take ((q - i) + (k - q)) := by congr 1; omega
            rw [this, List.take_add, List.drop_drop, show i + (q - i) = q by omega]
          rw [put_drop hkl hi, put_drop hkl (by omega), e1, List.append_assoc]
        rw [hdi, this, hsk]
        simp [up]
      · rw [List.map_cons, List.map_cons, hc]
        congr 1
        unfold core tkAt
        rw [htok, hm, hdq]
        simp only [Prod.mk.injEq, true_and, and_true]
        rw [List.take_append_of_le_length (by simp; omega), List.take_take, Nat.min_self]
end
end Go.Proofs.Ythmkggadgcdmfaa
