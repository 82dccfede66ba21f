/- Texts' tokens in plain Lean: what stands between tokens, what a token looks at. No condition. -/
import Derived.Test.YtbinaeemcidicaaGreatZL3
set_option maxHeartbeats 16000000
namespace Go.Proofs.YtbinaeemcidicaaGreat
end Go.Proofs.YtbinaeemcidicaaGreat
namespace Go.Proofs.YtbinaeemcidicaaGreat
def Ch (s : List UInt8) : Nat → List Tk → Prop
 | i, [] => i ≤ s.length ∧ skipS (s.drop i) = (s.length - i, true)
 | i, t :: l => i ≤ s.length ∧ ∃ q, i ≤ q ∧ q < s.length ∧ skipS (s.drop i) = (q - i, true) ∧ (tokS (s.drop q)).e = 0 ∧ t = tkAt s q ∧ Ch s (q + (tokS (s.drop q)).m) l
theorem ch_of_lex (s : List UInt8) : ∀ (f i : Nat) (acc L : List Tk) (p : Nat), s.length < f + i → i ≤ s.length → lexF s f i acc = (L, 0, p) → ∃ l, L = acc ++ l ∧ Ch s i l
 | 0, i, _, _, _, h, hi, _ => by omega
 | f + 1, i, acc, L, p, h, hi, he => by
  have hsl := skip_le (s.drop i)
  rw [List.length_drop] at hsl
  simp only [lexF] at he
  split at he
  ·cases he
  ·rename_i h1
   have h1 : (skipS (s.drop i)).2 = true := by simpa using h1
   split at he
   ·rename_i h2
    obtain ⟨rfl, _, _⟩ := Prod.mk.injEq .. ▸ he
    exact ⟨[], by simp, hi, by rw [← h1]; exact Prod.ext (by simp only; omega) rfl⟩
   ·rename_i h2
    split at he
    ·rename_i h3
     have := congrArg (fun x => x.2.1) he
     exact absurd this h3
    ·rename_i h3
     have h3 := Decidable.not_not.1 h3
     have h4 := err_tok h3
     obtain ⟨hm1, hm2⟩ := tok_m (s.drop (i + (skipS (s.drop i)).1))
     have hm2 := hm2 h4
     rw [List.length_drop] at hm1
     obtain ⟨l, hl, hc⟩ := ch_of_lex s f _ _ L p Zga Zga he
     refine ⟨tkAt s (i + (skipS (s.drop i)).1) :: l, by rw [hl]; simp, hi, i + (skipS (s.drop i)).1, by omega, by omega, ?_, h4, rfl, hc⟩
     rw [← h1]
     exact Prod.ext (by simp only; omega) rfl
theorem lex_of_ch {s : List UInt8} : ∀ {l : List Tk} {i : Nat} (acc : List Tk), Ch s i l → acc.length + l.length ≤ 2048 → lexR s i acc = (acc ++ l, 0, 0)
 | [], i, acc, h, _ => by
  obtain ⟨hi, hs⟩ := h
  rw [lexR_eq s i acc hi, hs, if_neg Zgn, if_pos (by simp only; omega)]
  simp
 | t :: l, i, acc, h, hl => by
  obtain ⟨hi, q, h1, h2, h3, h4, rfl, h5⟩ := h
  simp only [List.length_cons] at hl
  have hq : i + (q - i) = q := by omega
  have he : errAt s q acc.length = 0 := by
   unfold errAt
   rw [if_neg Zga, h4]
  rw [lexR_eq s i acc hi, h3]
  dsimp only
  rw [hq, if_neg Zgn, if_neg Zga, if_neg (by simp [he]), lex_of_ch (acc ++ [tkAt s q]) h5 Zjw]
  simp
theorem ch_of_lexS {s : List UInt8} {L : List Tk} {p : Nat} (h : lexS s = (L, 0, p)) : s.length ≤ 8192 ∧ Ch s 0 L ∧ L.length ≤ 2048 := by
 by_cases hl : 8192 < s.length
 ·unfold lexS at h
  rw [if_pos hl] at h
  cases h
 ·have hlen : ∀ (f i : Nat) (acc : List Tk), acc.length ≤ 2048 → (lexF s f i acc).1.length ≤ 2048 := fun f => by
   induction f with
   | zero => exact fun _ _ h => h
   | succ f ih =>
    intro i acc ha
    simp only [lexF]
    split
    ·simp
    ·split
     ·exact ha
     ·split
      ·simp
      ·rename_i he
       have he := Decidable.not_not.1 he
       refine ih _ _ ?_
       have : acc.length ≠ 2048 := fun hc => by
        have h0 := err_tok he
        unfold errAt at he
        rw [if_pos ⟨.inl h0, hc⟩] at he
        cases he
       simp
       omega
  unfold lexS at h
  rw [if_neg hl] at h
  obtain ⟨l, hl', hc⟩ := ch_of_lex s (s.length + 1) 0 [] L p Zga (Nat.zero_le _) h
  have hn := hlen (s.length + 1) 0 [] Zgn
  rw [h] at hn
  rw [List.nil_append] at hl'
  subst hl'
  exact ⟨by omega, hc, hn⟩
theorem lexS_of_ch {s : List UInt8} {L : List Tk} (hs : s.length ≤ 8192) (h : Ch s 0 L) (hl : L.length ≤ 2048) : lexS s = (L, 0, 0) := by
 rw [lexS_eq hs, lex_of_ch [] h (by simpa using hl)]
 rfl
end Go.Proofs.YtbinaeemcidicaaGreat
namespace Go.Proofs.YtbinaeemcidicaaGreat
def core (t : Tk) : Int × List UInt8 × Int := (t.k, t.t, t.x)
section
variable {s b : List UInt8} {k : Nat}
end
end Go.Proofs.YtbinaeemcidicaaGreat
namespace Go.Proofs.YtbinaeemcidicaaGreat
def slf (s : List UInt8) (k x : Int) : Prop := s.length ≤ 8192 ∧ s ≠ [] ∧ skipS s = (0, true) ∧ tokS s = ⟨0, k, s.length, x⟩
theorem slf_of_lex {s : List UInt8} {u : Tk} {p : Nat} (h : lexS s = ([u], 0, p)) (hu : u.t = s) : slf s u.k u.x := by
 obtain ⟨h1, h2, _⟩ := ch_of_lexS h
 obtain ⟨_, q, _, h3, h4, h5, rfl, _⟩ := h2
 have hm := (tok_m (s.drop q)).1
 have hl : ((s.drop q).take (tokS (s.drop q)).m).length = s.length := congrArg List.length hu
 rw [List.length_take, List.length_drop] at hl
 rw [List.length_drop] at hm
 obtain rfl : q = 0 := by omega
 simp only [List.drop_zero, Nat.sub_zero] at h4 h5 hm hl ⊢
 refine ⟨h1, fun e => by rw [e] at h3; simp at h3, h4, ?_⟩
 unfold tkAt
 simp only [List.drop_zero]
 have hml : (tokS s).m = s.length := by omega
 rw [← h5, ← hml]
theorem lex_of_slf {s : List UInt8} {k x : Int} (h : slf s k x) : lexS s = ([⟨k, s, x, 0, 0⟩], 0, 0) := by
 obtain ⟨h1, h2, h3, h4⟩ := h
 have hp : 0 < s.length := List.length_pos_iff.2 h2
 refine lexS_of_ch h1 ⟨Nat.zero_le _, 0, Nat.le_refl _, hp, h3, by rw [List.drop_zero, h4], ?_, ?_⟩ Zgn
 ·unfold tkAt
  rw [List.drop_zero, h4, List.take_length]
  rfl
 ·rw [List.drop_zero, h4]
  refine ⟨by simp, ?_⟩
  simp only [Nat.zero_add, List.drop_length, Nat.sub_self]
  exact skip_nil
theorem whole_big : ∀ (l : List UInt8) (n : Nat), min (n * 10 ^ l.length) 32768 ≤ l.foldl (fun n b => min (n * 10 + (b.toNat - 48)) 32768) n
 | [], n => by simp; omega
 | b :: l, n => by
  have ih := whole_big l (min (n * 10 + (b.toNat - 48)) 32768)
  rw [List.foldl_cons]
  refine Nat.le_trans ?_ ih
  have hp : 1 ≤ 10 ^ l.length := Nat.pos_of_ne_zero Zgn
  rw [List.length_cons, Nat.pow_succ]
  rcases Nat.le_total (n * 10 + (b.toNat - 48)) 32768 with h | h
  ·rw [Nat.min_eq_left h]
   have : n * (10 ^ l.length * 10) ≤ (n * 10 + (b.toNat - 48)) * 10 ^ l.length := by
    rw [Nat.add_mul, show n * (10 ^ l.length * 10) = n * 10 * 10 ^ l.length by rw [Nat.mul_assoc, Nat.mul_comm 10]]
    exact Nat.le_add_right _ _
   omega
  ·rw [Nat.min_eq_right h]
   have : 32768 ≤ 32768 * 10 ^ l.length := Nat.le_mul_of_pos_right _ hp
   omega
theorem slf_len {s : List UInt8} {k x : Int} (h : slf s k x) : s.length ≤ 64 := by
 obtain ⟨_, _, _, h4⟩ := h
 have he : (tokS s).e = 0 := by rw [h4]
 have hm : (tokS s).m = s.length := by rw [h4]
 rw [← hm]
 unfold tokS at he ⊢
 split at he
 ·rename_i h1
  rw [if_pos h1]
  split at he
  ·cases he
  ·rename_i h2
   rw [if_neg h2]
   show runN woB s ≤ 64
   omega
 ·rename_i h1
  rw [if_neg h1]
  split at he
  ·rename_i h2
   rw [if_pos h2]
   unfold numS at he ⊢
   split at he
   ·cases he
   ·rename_i h3
    rw [if_neg h3]
    split at he
    ·cases he
    ·rename_i h5
     rw [if_neg h5]
     have hnl := numN_le s
     split at he
     ·rename_i h6
      rw [if_pos h6]
      show numN s ≤ 64
      unfold parseS at he
      split at he
      ·cases he
      ·rename_i h7
       rw [List.length_take] at h7
       omega
     ·rename_i h6
      rw [if_neg h6]
      split at he
      ·cases he
      ·rename_i h7
       rw [if_neg h7]
       show numN s ≤ 64
       rcases Nat.lt_or_ge 64 (numN s) with h8 | h8
       ·exfalso
        have hd : dgB (s.getD 0 0) = true := by
         rcases h2 with h2 | ⟨h2, _⟩
         ·exact h2
         ·exfalso
          apply h6
          unfold numP
          have : runN dgB s = 0 := by
           cases s with
           | nil => rfl
           | cons c s =>
            simp only [List.getD_cons_zero] at h2
            subst h2
            rfl
          rw [this]
          exact h2
        have h0 : s.getD 0 0 ≠ 48 := fun e => h5 ⟨h6, by omega, e⟩
        cases s with
        | nil => simp at hnl; omega
        | cons c s =>
         simp only [List.getD_cons_zero] at hd h0
         have hc := dgB_iff.1 hd
         have hc' : c.toNat ≠ 48 := fun e => h0 (UInt8.toNat_inj.1 e)
         obtain ⟨j, hj⟩ : ∃ j, numN (c :: s) = j + 1 := ⟨numN (c :: s) - 1, by omega⟩
         rw [hj, List.take_succ_cons] at h7
         rw [hj] at hnl h8
         simp only [List.length_cons] at hnl
         have hb := whole_big (s.take j) (min (0 * 10 + (c.toNat - 48)) 32768)
         have hw : wholeS 32768 (c :: s.take j) = (s.take j).foldl (fun n b => min (n * 10 + (b.toNat - 48)) 32768) (min (0 * 10 + (c.toNat - 48)) 32768) := rfl
         rw [← hw, List.length_take, Nat.min_eq_left (show j ≤ s.length by omega)] at hb
         have h9 : 10 ^ 5 ≤ 10 ^ j := Nat.pow_le_pow_right Zf7 Zga
         have h10 : 10 ^ j ≤ min (0 * 10 + (c.toNat - 48)) 32768 * 10 ^ j := Nat.le_mul_of_pos_left _ Zga
         omega
       ·exact h8
  ·rename_i h2
   rw [if_neg h2]
   split at he
   ·cases he
   ·rename_i h3
    rw [if_neg h3]
    show signN _ _ ≤ 64
    unfold signN
    repeat' split
    all_goals decide
def slfB (c : Int × List UInt8 × Int) : Bool := decide ((lexS c.2.1).2.1 = 0 ∧ (lexS c.2.1).1.map core = [c])
theorem slfB_iff {k x : Int} {s : List UInt8} : slfB (k, s, x) = true ↔ slf s k x := by
 unfold slfB
 rw [decide_eq_true_iff]
 constructor
 ·rintro ⟨h1, h2⟩
  obtain ⟨R, hR⟩ : ∃ R, lexS s = R := ⟨_, rfl⟩
  simp only at h1 h2
  rw [hR] at h1 h2
  obtain ⟨L, e, p⟩ := R
  simp only at h1 h2
  subst h1
  match L, h2 with
  | [u], h2 =>
   simp only [List.map_cons, List.map_nil, List.cons.injEq, and_true, core, Prod.mk.injEq] at h2
   obtain ⟨rfl, h3, rfl⟩ := h2
   exact slf_of_lex hR h3
 ·intro h
  have := lex_of_slf h
  simp only
  rw [this]
  exact ⟨rfl, rfl⟩
end Go.Proofs.YtbinaeemcidicaaGreat
