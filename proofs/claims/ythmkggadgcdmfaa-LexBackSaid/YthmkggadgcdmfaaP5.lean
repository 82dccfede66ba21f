/- Texts' tokens in plain Lean: tokens whose text is just they, and the text of tokens. No condition. -/
import Derived.Test.YthmkggadgcdmfaaP4
namespace Go.Proofs.Ythmkggadgcdmfaa
/-- a text that is one token, and no more -/
def slf (s : List UInt8) (k x : Int) : Prop := s.length ≤ 8192 ∧ s ≠ [] ∧ skipS s = (0, true) ∧ tokS s = ⟨0, k, s.length, x⟩
theorem tkAt_core {s : List UInt8} {q m : Nat} {k x : Int} (h : tokS (s.drop q) = ⟨0, k, m, x⟩) : core (tkAt s q) = (k, (s.drop q).take m, x) := by
  unfold core tkAt
  rw [h]
theorem slf_of_lex {s : List UInt8} {u : Tk} {p : Nat} (h : lexS s = ([u], 0, p)) (hu : u.t = s) : slf s u.k u.x := by
  obtain ⟨h1, h2, _⟩ := ch_of_lexS h
  obtain ⟨_, q, _, h3, h4, h5, rfl, _⟩ := h2
  have hm := (tok_m (s.drop q)).1
  have hl : ((s.drop q).take (tokS (s.drop q)).m).length = s.length := congrArg List.length hu
  rw [List.length_take, List.length_drop] at hl
  rw [List.length_drop] at hm
  obtain rfl : q = 0 := by omega
  simp only [List.drop_zero, Nat.sub_zero] at h4 h5 hm hl ⊢
  refine ⟨h1, fun e => by rw [e] at h3; simp at h3, h4, ?_⟩
  unfold tkAt
  simp only [List.drop_zero]
  have hml : (tokS s).m = s.length := by omega
  rw [← h5, ← hml]
theorem lex_of_slf {s : List UInt8} {k x : Int} (h : slf s k x) : lexS s = ([⟨k, s, x, 0, 0⟩], 0, 0) := by
  obtain ⟨h1, h2, h3, h4⟩ := h
  have hp : 0 < s.length := List.length_pos_iff.2 h2
  refine lexS_of_ch h1 ⟨Nat.zero_le _, 0, Nat.le_refl _, hp, h3, by rw [List.drop_zero, h4], ?_, ?_⟩ (by simp)
  · unfold tkAt
    rw [List.drop_zero, h4, List.take_length]
    rfl
  · rw [List.drop_zero, h4]
    refine ⟨by simp, ?_⟩
    simp only [Nat.zero_add, List.drop_length, Nat.sub_self]
    exact skip_nil
theorem slf_app {s r : List UInt8} {k x : Int} (h : slf s k x) (hz : neu (r.getD 0 0)) : skipS (s ++ r) = (0, true) ∧ tokS (s ++ r) = ⟨0, k, s.length, x⟩ := by
  obtain ⟨h1, h2, h3, h4⟩ := h
  have e0 : (tokS s).e = 0 := by rw [h4]
  have a := tok_app (l := s) (r := r) e0 (.inr hz)
  have b := skip_tok (l := s) (r := r) h2 h3 e0 (.inr hz)
  rw [h4] at a b
  simp only [List.take_length] at a b
  exact ⟨b, a⟩
theorem slf_of_ch {s : List UInt8} (hs : s.length ≤ 8192) : ∀ {l : List Tk} {i : Nat}, Ch s i l → ∀ u ∈ l, slf u.t u.k u.x
  | [], _, _, u, hu => by cases hu
  | t :: l, i, h, u, hu => by
    obtain ⟨_, q, h1, h2, h3, h4, rfl, h5⟩ := h
    rcases List.mem_cons.1 hu with rfl | hu
    · obtain ⟨m0, m1⟩ := tok_m (s.drop q)
      have m1 := m1 h4
      rw [List.length_drop] at m0
      have hsk : skipS (s.drop q) = (0, true) := by
        have := skip_at (l := s.drop i) h3 (by rw [List.length_drop]; omega)
        rwa [List.drop_drop, show i + (q - i) = q by omega] at this
      have hz : neu (([] : List UInt8).getD 0 0) := .inl rfl
      have a := tok_app (l := s.drop q) (r := []) h4 (.inr hz)
      have b := skip_tok (l := s.drop q) (r := []) (by intro e; have := congrArg List.length e; simp at this; omega) hsk h4 (.inr hz)
      rw [List.append_nil] at a b
      have hl : ((s.drop q).take (tokS (s.drop q)).m).length = (tokS (s.drop q)).m := by rw [List.length_take, List.length_drop]; omega
      refine ⟨?_, ?_, b, ?_⟩
      · show ((s.drop q).take (tokS (s.drop q)).m).length ≤ 8192
        omega
      · intro e
        have := congrArg List.length e
        rw [List.length_nil] at this
        have h6 : (tkAt s q).t.length = (tokS (s.drop q)).m := hl
        omega
      · show tokS ((s.drop q).take (tokS (s.drop q)).m) = ⟨0, (tokS (s.drop q)).k, ((s.drop q).take (tokS (s.drop q)).m).length, (tokS (s.drop q)).x⟩
        rw [a, hl, ← h4]
    · exact slf_of_ch hs h5 u hu
theorem whole_big : ∀ (l : List UInt8) (n : Nat), min (n * 10 ^ l.length) 32768 ≤ l.foldl (fun n b => min (n * 10 + (b.toNat - 48)) 32768) n
  | [], n => by simp; omega
  | b :: l, n => by
    have ih := whole_big l (min (n * 10 + (b.toNat - 48)) 32768)
    rw [List.foldl_cons]
    refine Nat.le_trans ?_ ih
    have hp : 1 ≤ 10 ^ l.length := Nat.pos_of_ne_zero (by simp)
    rw [List.length_cons, Nat.pow_succ]
    rcases Nat.le_total (n * 10 + (b.toNat - 48)) 32768 with h | h
    · rw [Nat.min_eq_left h]
      have : n * (10 ^ l.length * 10) ≤ (n * 10 + (b.toNat - 48)) * 10 ^ l.length := by
        rw [Nat.add_mul, show n * (10 ^ l.length * 10) = n * 10 * 10 ^ l.length by rw [Nat.mul_assoc, Nat.mul_comm 10]]
        exact Nat.le_add_right _ _
      omega
    · rw [Nat.min_eq_right h]
      have : 32768 ≤ 32768 * 10 ^ l.length := Nat.le_mul_of_pos_right _ hp
      omega
theorem slf_len {s : List UInt8} {k x : Int} (h : slf s k x) : s.length ≤ 64 := by
  obtain ⟨_, _, _, h4⟩ := h
  have he : (tokS s).e = 0 := by rw [h4]
  have hm : (tokS s).m = s.length := by rw [h4]
  rw [← hm]
  unfold tokS at he ⊢
  split at he
  · rename_i h1
    rw [if_pos h1]
    split at he
    · cases he
    · rename_i h2
      rw [if_neg h2]
      show runN woB s ≤ 64
      omega
  · rename_i h1
    rw [if_neg h1]
    split at he
    · rename_i h2
      rw [if_pos h2]
      unfold numS at he ⊢
      split at he
      · cases he
      · rename_i h3
        rw [if_neg h3]
        split at he
        · cases he
        · rename_i h5
          rw [if_neg h5]
          have hnl := numN_le s
          split at he
          · rename_i h6
            rw [if_pos h6]
            show numN s ≤ 64
            unfold parseS at he
            split at he
            · cases he
            · rename_i h7
              rw [List.length_take] at h7
              omega
          · rename_i h6
            rw [if_neg h6]
            split at he
            · cases he
            · rename_i h7
              rw [if_neg h7]
              show numN s ≤ 64
              rcases Nat.lt_or_ge 64 (numN s) with h8 | h8
              · exfalso
                have hd : dgB (s.getD 0 0) = true := by
                  rcases h2 with h2 | ⟨h2, _⟩
                  · exact h2
                  · exfalso
                    apply h6
                    unfold numP
                    have : runN dgB s = 0 := by
                      cases s with
                      | nil => rfl
                      | cons c s =>
                        simp only [List.getD_cons_zero] at h2
                        subst h2
                        rfl
                    rw [this]
                    exact h2
                have h0 : s.getD 0 0 ≠ 48 := fun e => h5 ⟨h6, by omega, e⟩
                cases s with
                | nil => simp at hnl; omega
                | cons c s =>
                  simp only [List.getD_cons_zero] at hd h0
                  have hc := dgB_iff.1 hd
                  have hc' : c.toNat ≠ 48 := fun e => h0 (UInt8.toNat_inj.1 e)
                  obtain ⟨j, hj⟩ : ∃ j, numN (c :: s) = j + 1 := ⟨numN (c :: s) - 1, by omega⟩
                  rw [hj, List.take_succ_cons] at h7
                  rw [hj] at hnl h8
                  simp only [List.length_cons] at hnl
                  have hb := whole_big (s.take j) (min (0 * 10 + (c.toNat - 48)) 32768)
                  have hw : wholeS 32768 (c :: s.take j) = (s.take j).foldl (fun n b => min (n * 10 + (b.toNat - 48)) 32768) (min (0 * 10 + (c.toNat - 48)) 32768) := rfl
                  rw [← hw, List.length_take, Nat.min_eq_left (show j ≤ s.length by omega)] at hb
                  have h9 : 10 ^ 5 ≤ 10 ^ j := Nat.pow_le_pow_right (by decide) (by omega)
                  have h10 : 10 ^ j ≤ min (0 * 10 + (c.toNat - 48)) 32768 * 10 ^ j := Nat.le_mul_of_pos_left _ (by omega)
                  omega
              · exact h8
    · rename_i h2
      rw [if_neg h2]
      split at he
      · cases he
      · rename_i h3
        rw [if_neg h3]
        show signN _ _ ≤ 64
        unfold signN
        repeat' split
        all_goals decide
/-- is it one? -/
def slfB (c : Int × List UInt8 × Int) : Bool := decide ((lexS c.2.1).2.1 = 0 ∧ (lexS c.2.1).1.map core = [c])
theorem slfB_iff {k x : Int} {s : List UInt8} : slfB (k, s, x) = true ↔ slf s k x := by
  unfold slfB
  rw [decide_eq_true_iff]
  constructor
  · rintro ⟨h1, h2⟩
    obtain ⟨R, hR⟩ : ∃ R, lexS s = R := ⟨_, rfl⟩
    simp only at h1 h2
    rw [hR] at h1 h2
    obtain ⟨L, e, p⟩ := R
    simp only at h1 h2
    subst h1
    match L, h2 with
    | [u], h2 =>
      simp only [List.map_cons, List.map_nil, List.cons.injEq, and_true, core, Prod.mk.injEq] at h2
      obtain ⟨rfl, h3, rfl⟩ := h2
      exact slf_of_lex hR h3
  · intro h
    have := lex_of_slf h
    simp only
    rw [this]
    exact ⟨rfl, rfl⟩
/-- the text of tokens, each with its line -/
def prR : Option Int → List (Int × List UInt8) → List UInt8
  | _, [] => []
  | none, (n, t) :: l => t ++ prR (some n) l
  | some m, (n, t) :: l => (if m < n then 10 else 32) :: (t ++ prR (some n) l)
theorem prR_snoc : ∀ (l : List (Int × List UInt8)) (p : Option Int) (z y : Int × List UInt8), prR p (l ++ [z] ++ [y]) = prR p (l ++ [z]) ++ ((if z.1 < y.1 then 10 else 32) :: y.2)
  | [], none, z, y => by simp [prR]
  | [], some m, z, y => by simp [prR]
  | a :: l, none, z, y => by
    have := prR_snoc l (some a.1) z y
    simp only [List.cons_append, prR]
    rw [this, List.append_assoc]
  | a :: l, some m, z, y => by
    have := prR_snoc l (some a.1) z y
    simp only [List.cons_append, prR]
    rw [this]
    simp
theorem pr_neu (n : Int) (l : List (Int × List UInt8)) : neu ((prR (some n) l).getD 0 0) := by
  cases l with
  | nil => exact .inl rfl
  | cons y l =>
    right
    simp only [prR, List.getD_cons_zero]
    split <;> rfl
theorem pr_ch {T : List UInt8} : ∀ (l : List (Int × Int × List UInt8 × Int)) (p : Option Int) (i : Nat), (∀ y ∈ l, slf y.2.2.1 y.2.1 y.2.2.2) → i ≤ T.length → T.drop i = prR p (l.map fun y => (y.1, y.2.2.1)) → ∃ M, Ch T i M ∧ M.map core = l.map (·.2)
  | [], p, i, _, hi, h => by
    refine ⟨[], ⟨hi, ?_⟩, rfl⟩
    have h : T.drop i = [] := by rw [h]; cases p <;> rfl
    have hl := congrArg List.length h
    simp at hl
    rw [h, show T.length - i = 0 by omega]
    exact skip_nil
  | (n, k, s, x) :: l, p, i, hs, hi, h => by
    have h0 : slf s k x := hs (n, k, s, x) (List.mem_cons_self ..)
    obtain ⟨R, hR⟩ : ∃ R, prR (some n) (l.map fun y => (y.1, y.2.2.1)) = R := ⟨_, rfl⟩
    obtain ⟨b, hb, hd⟩ : ∃ b : List UInt8, (∀ c ∈ b, blB c = true) ∧ T.drop i = b ++ (s ++ R) := by
      cases p with
      | none => exact ⟨[], by simp, by rw [h, ← hR]; rfl⟩
      | some m =>
        refine ⟨[if m < n then 10 else 32], ?_, by rw [h, ← hR]; rfl⟩
        intro c hc
        rw [List.mem_singleton] at hc
        rw [hc]
        split <;> rfl
    have hz : neu (R.getD 0 0) := by rw [← hR]; exact pr_neu _ _
    obtain ⟨a1, a2⟩ := slf_app h0 hz
    have hsl : 0 < s.length := List.length_pos_iff.2 h0.2.1
    have hlen := congrArg List.length hd
    simp only [List.length_drop, List.length_append] at hlen
    have hq : T.drop (i + b.length) = s ++ R := by rw [← List.drop_drop, hd, List.drop_left]
    have hq2 : T.drop (i + b.length + s.length) = prR (some n) (l.map fun y => (y.1, y.2.2.1)) := by rw [← List.drop_drop, hq, List.drop_left, hR]
    obtain ⟨M, m1, m2⟩ := pr_ch l (some n) (i + b.length + s.length) (fun y hy => hs y (List.mem_cons_of_mem _ hy)) (by omega) hq2
    have ht : tokS (T.drop (i + b.length)) = ⟨0, k, s.length, x⟩ := by rw [hq, a2]
    refine ⟨tkAt T (i + b.length) :: M, ⟨hi, i + b.length, by omega, by omega, ?_, by rw [ht], rfl, by rw [ht]; exact m1⟩, ?_⟩
    · rw [hd, skip_blanks _ hb, a1, show i + b.length - i = b.length by omega]
      rfl
    · rw [List.map_cons, List.map_cons, m2, tkAt_core ht, hq, List.take_left]
/-- THE LAW: the text of tokens that may be has the same tokens -/
theorem lex_pr {l : List (Int × Int × List UInt8 × Int)} (hs : ∀ y ∈ l, slfB y.2 = true) (hl : l.length ≤ 2048) (ht : (prR none (l.map fun y => (y.1, y.2.2.1))).length ≤ 8192) :
    ∃ M, lexS (prR none (l.map fun y => (y.1, y.2.2.1))) = (M, 0, 0) ∧ M.map core = l.map (·.2) := by
  obtain ⟨M, h1, h2⟩ := pr_ch (T := prR none (l.map fun y => (y.1, y.2.2.1))) l none 0 (fun y hy => slfB_iff.1 (hs y hy)) (Nat.zero_le _) rfl
  have hM : M.length = l.length := by have := congrArg List.length h2; simpa using this
  exact ⟨M, lexS_of_ch ht h1 (by omega), h2⟩
/-- a text's tokens may be -/
theorem lex_slf {s : List UInt8} {L : List Tk} {p : Nat} (h : lexS s = (L, 0, p)) : ∀ u ∈ L, slfB (core u) = true := fun u hu => by
  obtain ⟨h1, h2, _⟩ := ch_of_lexS h
  exact slfB_iff.2 (slf_of_ch h1 h2 u hu)
end Go.Proofs.Ythmkggadgcdmfaa
