/- Texts' tokens in plain Lean: what stands between tokens, what a token looks at. No condition. -/
import Derived.Test.YtbinaeemcidicaaGreatDoorZL3
set_option maxHeartbeats 16000000
namespace Go.Proofs.YtbinaeemcidicaaGreatDoor
theorem endN_take : ∀ {l : List UInt8} {k m : Nat}, endN l = some k → k + 2 ≤ m → endN (l.take m) = some k
 | [], _, _, h, _ => by cases h
 | c :: l, k, 0, _, hm => by omega
 | c :: l, k, m + 1, h, hm => by
  rw [List.take_succ_cons]
  simp only [endN] at h ⊢
  have hh : (l.take m).head? = l.head? := by
   cases m with
   | zero => omega
   | succ m => cases l <;> rfl
  rw [hh]
  split at h
  ·rename_i hc
   rw [if_pos hc]
   exact h
  ·rename_i hc
   rw [if_neg hc]
   obtain ⟨j, hj, rfl⟩ := Option.map_eq_some_iff.1 h
   rw [endN_take hj Zf7]
   rfl
theorem endN_app : ∀ {l : List UInt8} {k : Nat} (r : List UInt8), endN l = some k → endN (l ++ r) = some k
 | [], _, _, h => by cases h
 | c :: l, k, r, h => by
  rw [List.cons_append]
  simp only [endN] at h ⊢
  split at h
  ·rename_i hc
   have : (l ++ r).head? = some 47 := by
    cases l with
    | nil => simp at hc
    | cons d l => simpa using hc.2
   rw [if_pos ⟨hc.1, this⟩]
   exact h
  ·rename_i hc
   obtain ⟨j, hj, rfl⟩ := Option.map_eq_some_iff.1 h
   have hl := endN_lt hj
   have : (l ++ r).head? = l.head? := by
    cases l with
    | nil => simp at hl
    | cons d l => rfl
   rw [this, if_neg hc, endN_app r hj]
   rfl
theorem runN_app {p : UInt8 → Bool} : ∀ {l : List UInt8} (n : Nat) (r : List UInt8), runN p l < n → n ≤ l.length → runN p (l.take n ++ r) = runN p l
 | [], n, _, h, h2 => by simp at h2; omega
 | c :: l, 0, _, h, _ => by omega
 | c :: l, n + 1, r, h, h2 => by
  rw [List.take_succ_cons, List.cons_append]
  simp only [runN] at h ⊢
  split
  ·rename_i hc
   rw [if_pos hc] at h
   rw [runN_app n r Zf7 (by simpa using h2)]
  ·rfl
theorem skip_app : ∀ (k : Nat) (l r : List UInt8), l.length ≤ k → (skipS l).2 = true → (skipS l).1 < l.length → skipS (l.take (skipS l).1 ++ r) = up (skipS l).1 (skipS r)
 | _, [], _, _, _, h => by simp at h
 | 0, c :: t, _, hk, _, _ => by simp at hk
 | k + 1, c :: t, r, hk, h2, h3 => by
  simp only [List.length_cons] at hk
  by_cases hb : blB c = true
  ·rw [skip_blank hb] at h2 h3 ⊢
   simp only [up, List.length_cons] at h2 h3
   simp only [up, Nat.add_comm 1, List.take_succ_cons, List.cons_append]
   rw [skip_blank hb, skip_app k t r Zf7 h2 Zf7]
   simp only [up]
   congr 1
   omega
  ·have hb' : blB c = false := by simpa using hb
   by_cases hl : c = 47 ∧ t.head? = some 47
   ·obtain ⟨rfl, hh⟩ := hl
    rw [skip_line hh] at h2 h3 ⊢
    obtain ⟨L, hL⟩ : ∃ L, lineN (47 :: t) = L := ⟨_, rfl⟩
    have hL2 : 2 ≤ L := by
     cases t with
     | nil => simp at hh
     | cons d t =>
      have : d = 47 := by simpa using hh
      subst this
      rw [← hL]
      simp [lineN, runN]
    have hLl : L ≤ (47 :: t).length := by rw [← hL]; exact runN_le _ _
    rw [hL] at h2 h3 ⊢
    simp only [up] at h2 h3 ⊢
    obtain ⟨R, hR⟩ : ∃ R, skipS ((47 :: t).drop L) = R := ⟨_, rfl⟩
    have hlt : L < (47 :: t).length := by omega
    have hten : (47 :: t).getD L 0 = 10 := by
     have := runN_stop (fun b => !(b.toNat == 10)) (47 :: t)
     unfold lineN at hL
     rw [hL] at this
     have := this hlt
     simp only [Bool.not_eq_false', beq_iff_eq] at this
     exact UInt8.toNat_inj.1 this
    have hR1 : 1 ≤ R.1 := by
     have hd : (47 :: t).drop L = 10 :: (47 :: t).drop (L + 1) := by
      rw [List.drop_eq_getElem_cons hlt]
      congr 1
      have := hten
      simp only [List.getD, List.getElem?_eq_getElem hlt, Option.getD_some] at this
      exact this
     rw [hd, skip_blank Zf6] at hR
     rw [← hR]
     simp only [up]
     omega
    have ih := skip_app k ((47 :: t).drop L) r Zja (by rw [hR]; rw [hR] at h2; exact h2) (by rw [hR]; rw [hR] at h3; simp at h3 ⊢; omega)
    rw [hR] at h2 h3 ih ⊢
    have hp : (47 :: t).take (L + R.1) ++ r = 47 :: (t.take (L + R.1 - 1) ++ r) := by
     obtain ⟨n, hn⟩ : ∃ n, L + R.1 = n + 1 := ⟨L + R.1 - 1, by omega⟩
     rw [hn, List.take_succ_cons]
     rfl
    have hh' : (t.take (L + R.1 - 1) ++ r).head? = some 47 := by
     cases t with
     | nil => simp at hh
     | cons d t =>
      obtain ⟨n, hn⟩ : ∃ n, L + R.1 - 1 = n + 1 := ⟨L + R.1 - 2, by omega⟩
      rw [hn, List.take_succ_cons]
      simpa using hh
    have hL' : lineN (47 :: (t.take (L + R.1 - 1) ++ r)) = L := by
     rw [← hp]
     unfold lineN at hL ⊢
     rw [runN_app _ _ (by rw [hL]; omega) Zf7, hL]
    have hd' : (47 :: (t.take (L + R.1 - 1) ++ r)).drop L = ((47 :: t).drop L).take R.1 ++ r := by
     rw [← hp, List.drop_append_of_le_length (by simp; simp at h3; omega), List.drop_take]
     congr 2
     omega
    rw [hp, skip_line hh', hL', hd', ih, up_up]
    rfl
   ·by_cases hbk : c = 47 ∧ t.head? = some 42
    ·obtain ⟨rfl, hh⟩ := hbk
     cases he : endN (t.drop 1) with
     | none => rw [skip_open hh he] at h2; cases h2
     | some n =>
      rw [skip_block hh he] at h2 h3 ⊢
      have hen := endN_lt he
      have ht1 : 1 ≤ t.length := by
       cases t with
       | nil => simp at hh
       | cons d t => simp
      simp only [up, List.length_drop] at h2 h3 hen ⊢
      obtain ⟨R, hR⟩ : ∃ R, skipS ((47 :: t).drop (n + 4)) = R := ⟨_, rfl⟩
      have ih := skip_app k ((47 :: t).drop (n + 4)) r Zja (by rw [hR]; rw [hR] at h2; exact h2) (by rw [hR]; rw [hR] at h3; simp at h3 ⊢; omega)
      rw [hR] at h2 h3 ih ⊢
      have hp : (47 :: t).take (n + 4 + R.1) ++ r = 47 :: (t.take (n + 3 + R.1) ++ r) := by
       rw [show n + 4 + R.1 = (n + 3 + R.1) + 1 by omega, List.take_succ_cons]
       rfl
      have hh' : (t.take (n + 3 + R.1) ++ r).head? = some 42 := by
       cases t with
       | nil => simp at hh
       | cons d t =>
        rw [show n + 3 + R.1 = (n + 2 + R.1) + 1 by omega, List.take_succ_cons]
        simpa using hh
      have he' : endN ((t.take (n + 3 + R.1) ++ r).drop 1) = some n := by
       rw [List.drop_append_of_le_length Zja, List.drop_take]
       exact endN_app r (endN_take he Zf7)
      have hd' : (47 :: (t.take (n + 3 + R.1) ++ r)).drop (n + 4) = ((47 :: t).drop (n + 4)).take R.1 ++ r := by
       rw [← hp, List.drop_append_of_le_length (by simp; simp at h3; omega), List.drop_take]
       congr 2
       omega
      rw [hp, skip_block hh' he', hd', ih, up_up]
      rfl
    ·have hs := skip_stop (c := c) (t := t) hb' (fun h => h.2.elim (fun h' => hl ⟨h.1, h'⟩) (fun h' => hbk ⟨h.1, h'⟩))
     rw [hs]
     simp only [List.take_zero, List.nil_append, up_zero]
def neu (z : UInt8) : Prop := z = 0 ∨ blB z = true
theorem neu_wo {z : UInt8} (h : neu z) : leB z = false ∧ dgB z = false ∧ z ≠ 46 ∧ z ≠ 61 ∧ z ≠ 47 ∧ z ≠ 42 := by
 rcases h with rfl | h
 ·decide
 ·have hb := blB_iff.1 h
  refine ⟨?_, ?_, ?_, ?_, ?_, ?_⟩
  ·cases hl : leB z with
   | false => rfl
   | true => have := leB_iff.1 hl; omega
  ·cases hl : dgB z with
   | false => rfl
   | true => have := dgB_iff.1 hl; omega
  all_goals (rintro rfl; revert h; decide)
theorem getD_app {l r : List UInt8} {m n : Nat} (hn : n < m) (hm : m ≤ l.length) : (l.take m ++ r).getD n 0 = l.getD n 0 := by
 simp only [List.getD]
 rw [List.getElem?_append_left Zja, List.getElem?_take, if_pos hn]
theorem getD_app_at {l r : List UInt8} {m : Nat} (hm : m ≤ l.length) : (l.take m ++ r).getD m 0 = r.getD 0 0 := by
 simp only [List.getD]
 rw [List.getElem?_append_right Zja]
 simp [Nat.min_eq_left hm]
theorem run_at_app {p : UInt8 → Bool} {l r : List UInt8} {m : Nat} (hm : m ≤ l.length) (hr : runN p l = m) (hz : p (r.getD 0 0) = false) : runN p (l.take m ++ r) = m := by
 refine runN_at p _ m Zja (fun j hj => ?_) (fun _ => by rw [getD_app_at hm]; exact hz)
 rw [getD_app hj hm]
 have := runN_all p l
 rw [hr] at this
 exact this _ (by
  have h2 : j < (l.take m).length := by simp; omega
  have h3 : l.getD j 0 = (l.take m)[j] := by simp [List.getD, show j < l.length by omega]
  rw [h3]
  exact List.getElem_mem _)
theorem runN_not {p : UInt8 → Bool} {l : List UInt8} (h0 : p 0 = false) : p (l.getD (runN p l) 0) = false := by
 rcases Nat.lt_or_ge (runN p l) l.length with h | h
 ·exact runN_stop p l h
 ·simp only [List.getD, List.getElem?_eq_none h, Option.getD_none]
  exact h0
theorem num_app {l r : List UInt8} (hp : dgB (l.getD 0 0) = true ∨ (l.getD 0 0 = 46 ∧ dgB (l.getD 1 0) = true)) (he : (numS l).e = 0) (hz : r.getD 0 0 = l.getD (numN l) 0 ∨ neu (r.getD 0 0)) : numS (l.take (numN l) ++ r) = numS l ∧ (numS l).m = numN l := by
 have hN1 := numN_pos hp
 have hNl := numN_le l
 obtain ⟨N, hN⟩ : ∃ N, numN l = N := ⟨_, rfl⟩
 rw [hN] at hz hN1 hNl ⊢
 obtain ⟨D, hD⟩ : ∃ D, runN dgB l = D := ⟨_, rfl⟩
 have hDl := runN_le dgB l
 have hDn : dgB (l.getD D 0) = false := by rw [← hD]; exact runN_not Zf6
 have d46 : dgB 46 = false := by decide
 have hN0 := hN
 unfold numN at hN
 rw [hD] at hN hDl
 have hbad : ¬(leB (l.getD N 0) = true ∨ l.getD N 0 = 46) := fun h => by
  unfold numS at he
  rw [hN0, if_pos h] at he
  cases he
 have hbad2 : ¬(¬numP l ∧ 1 < N ∧ l.getD 0 0 = 48) := fun h => by
  unfold numS at he
  rw [hN0, if_neg hbad, if_pos h] at he
  cases he
 have hz1 : ¬(leB (r.getD 0 0) = true ∨ r.getD 0 0 = 46) := by
  rcases hz with h | h
  ·rw [h]; exact hbad
  ·have := neu_wo h
   rintro (h1 | h1)
   ·rw [this.1] at h1; cases h1
   ·exact this.2.2.1 h1
 have hx : (l.take N ++ r).take N = l.take N := by rw [List.take_append_of_le_length Zja, List.take_take, Nat.min_self]
 by_cases hP : l.getD D 0 = 46
 ·rw [if_pos hP] at hN
  obtain ⟨E, hE⟩ : ∃ E, runN dgB (l.drop (D + 1)) = E := ⟨_, rfl⟩
  rw [hE] at hN
  have hEl := runN_le dgB (l.drop (D + 1))
  rw [hE, List.length_drop] at hEl
  have hEn : dgB (l.getD N 0) = false := by
   have := runN_not (p := dgB) (l := l.drop (D + 1)) Zf6
   rw [hE] at this
   rw [← hN, show D + 1 + E = D + 1 + E from rfl]
   simpa [List.getD, List.getElem?_drop] using this
  have hzd : dgB (r.getD 0 0) = false := by
   rcases hz with h | h
   ·rw [h]; exact hEn
   ·exact (neu_wo h).2.1
  have hD' : runN dgB (l.take N ++ r) = D := by
   have := runN_app (p := dgB) N r (by rw [hD]; omega) hNl
   rw [this, hD]
  have hg' : (l.take N ++ r).getD D 0 = 46 := by rw [getD_app Zf7 hNl]; exact hP
  have hE' : runN dgB ((l.take N ++ r).drop (D + 1)) = E := by
   rw [List.drop_append_of_le_length Zja, List.drop_take, show N - (D + 1) = E by omega]
   exact run_at_app Zja hE hzd
  have hN' : numN (l.take N ++ r) = N := by
   unfold numN
   rw [hD', if_pos hg', hE']
   exact hN
  have hP1 : numP l := by unfold numP; rw [hD]; exact hP
  have hP2 : numP (l.take N ++ r) := by unfold numP; rw [hD']; exact hg'
  have e1 : numS l = ⟨(parseS (l.take N)).2, 3, N, (parseS (l.take N)).1⟩ := by
   unfold numS
   rw [hN0, if_neg hbad, if_neg hbad2, if_pos hP1]
  have e2 : numS (l.take N ++ r) = ⟨(parseS (l.take N)).2, 3, N, (parseS (l.take N)).1⟩ := by
   unfold numS
   rw [hN', getD_app_at hNl, if_neg hz1, if_neg (fun h => h.1 hP2), if_pos hP2, hx]
  rw [e1, e2]
  exact ⟨rfl, rfl⟩
 ·rw [if_neg hP] at hN
  subst hN
  have hzd : dgB (r.getD 0 0) = false := by
   rcases hz with h | h
   ·rw [h]; exact hDn
   ·exact (neu_wo h).2.1
  have hD' : runN dgB (l.take D ++ r) = D := run_at_app hNl hD hzd
  have hg' : (l.take D ++ r).getD D 0 ≠ 46 := by rw [getD_app_at hNl]; exact fun h => hz1 (.inr h)
  have hN' : numN (l.take D ++ r) = D := by
   unfold numN
   rw [hD', if_neg hg']
  have hP1 : ¬numP l := by unfold numP; rw [hD]; exact hP
  have hP2 : ¬numP (l.take D ++ r) := by unfold numP; rw [hD']; exact hg'
  have hb3 : ¬(¬numP (l.take D ++ r) ∧ 1 < D ∧ (l.take D ++ r).getD 0 0 = 48) := fun h => hbad2 ⟨hP1, h.2.1, by rw [← h.2.2, getD_app Zf7 hNl]⟩
  have e2 : numS (l.take D ++ r) = numS l := by
   unfold numS
   rw [hN', hN0, getD_app_at hNl, if_neg hz1, if_neg hb3, if_neg hP2, hx, if_neg hbad, if_neg hbad2, if_neg hP1]
  refine ⟨e2, ?_⟩
  unfold numS at he ⊢
  rw [hN0, if_neg hbad, if_neg hbad2, if_neg hP1] at he ⊢
  split
  ·rename_i hbig
   rw [if_pos hbig] at he
   cases he
  ·rfl
theorem sign_neu {c d z : UInt8} (h : signN c d = 1) (hz : z ≠ 61) (hc : z ≠ 43 ∧ z ≠ 45) : signN c z = 1 := by
 unfold signN at h ⊢
 split
 ·first | rfl | rw [if_neg hz]
 ·rename_i h1
  rw [if_neg h1] at h
  split
  ·rename_i h2
   rw [if_neg]
   rintro (h3 | h3)
   ·exact hz h3
   ·rcases h2 with rfl | rfl
    ·exact hc.1 h3
    ·exact hc.2 h3
  ·rename_i h2
   rw [if_neg h2] at h
   split
   ·rename_i h3
    rw [if_pos h3] at h
    split at h <;> cases h
   ·rename_i h3
    rw [if_neg h3] at h
    exact h
theorem tok_app {l r : List UInt8} (he : (tokS l).e = 0) (hz : r.getD 0 0 = l.getD (tokS l).m 0 ∨ neu (r.getD 0 0)) : tokS (l.take (tokS l).m ++ r) = tokS l := by
 obtain ⟨hml, hm1⟩ := tok_m l
 have hm1 := hm1 he
 have h0 : (l.take (tokS l).m ++ r).getD 0 0 = l.getD 0 0 := getD_app Zf7 hml
 by_cases hl : leB (l.getD 0 0) = true
 ·obtain ⟨N, hN⟩ : ∃ N, runN woB l = N := ⟨_, rfl⟩
  have e1 : tokS l = if 32 < N then ⟨3, 0, 0, 0⟩ else ⟨0, 1, N, 0⟩ := by
   unfold tokS
   rw [if_pos hl, hN]
  by_cases hb : 32 < N
  ·rw [e1, if_pos hb] at he
   cases he
  ·rw [if_neg hb] at e1
   rw [e1] at h0 hz hml ⊢
   dsimp only at h0 hz hml ⊢
   have hwn : woB (l.getD N 0) = false := by rw [← hN]; exact runN_not Zf6
   have hzw : woB (r.getD 0 0) = false := by
    rcases hz with h | h
    ·rw [h]; exact hwn
    ·have := neu_wo h
     unfold woB
     rw [this.1, this.2.1]
     rfl
   unfold tokS
   rw [h0, if_pos hl, run_at_app hml hN hzw, if_neg hb]
 ·by_cases hd : dgB (l.getD 0 0) = true ∨ (l.getD 0 0 = 46 ∧ dgB (l.getD 1 0) = true)
  ·have e1 : tokS l = numS l := by
    unfold tokS
    rw [if_neg hl, if_pos hd]
   rw [e1] at he hz h0 hml ⊢
   have hNp := numN_pos hd
   have hmN : (numS l).m = numN l := by
    unfold numS at he ⊢
    split
    ·rename_i h; rw [if_pos h] at he; cases he
    ·rename_i h
     rw [if_neg h] at he
     split
     ·rename_i h; rw [if_pos h] at he; cases he
     ·rename_i h
      rw [if_neg h] at he
      split
      ·rfl
      ·rename_i h
       rw [if_neg h] at he
       split
       ·rename_i h; rw [if_pos h] at he; cases he
       ·rfl
   rw [hmN] at hz h0 hml ⊢
   have hd' : dgB ((l.take (numN l) ++ r).getD 0 0) = true ∨ ((l.take (numN l) ++ r).getD 0 0 = 46 ∧ dgB ((l.take (numN l) ++ r).getD 1 0) = true) := by
    rw [h0]
    rcases hd with h | h
    ·exact .inl h
    ·refine .inr ⟨h.1, ?_⟩
     have h2 : 2 ≤ numN l := by
      have h3 : runN dgB l = 0 := by
       cases l with
       | nil => rfl
       | cons c l =>
        have : c = 46 := by simpa using h.1
        subst this
        rfl
      unfold numN
      rw [h3]
      rw [if_pos h.1]
      cases l with
      | nil => simp at h
      | cons c l =>
       cases l with
       | nil => simp at h; exact absurd h.2 Zf6
       | cons d l =>
        have : dgB d = true := by simpa using h.2
        simp [runN, this]
        omega
     rw [getD_app Zf7 hml]
     exact h.2
   unfold tokS
   rw [h0] at hd'
   rw [h0, if_neg hl, if_pos hd', (num_app hd he hz).1]
  ·obtain ⟨N, hN⟩ : ∃ N, signN (l.getD 0 0) (l.getD 1 0) = N := ⟨_, rfl⟩
   have e1 : tokS l = if N = 0 then ⟨200, 0, 0, 0⟩ else ⟨0, 4, N, 0⟩ := by
    unfold tokS
    rw [if_neg hl, if_neg hd, hN]
   have hN0 : N ≠ 0 := fun h => by rw [e1, if_pos h] at he; cases he
   rw [if_neg hN0] at e1
   rw [e1] at h0 hz hml ⊢
   dsimp only at h0 hz hml ⊢
   have hle := signN_le (l.getD 0 0) (l.getD 1 0)
   rw [hN] at hle
   by_cases h2 : N = 2
   ·have h1 : (l.take N ++ r).getD 1 0 = l.getD 1 0 := getD_app Zf7 hml
    unfold tokS
    rw [h0, h1, if_neg hl, if_neg hd, hN, if_neg hN0]
   ·have hN1 : N = 1 := by omega
    subst hN1
    have h1 : (l.take 1 ++ r).getD 1 0 = r.getD 0 0 := getD_app_at hml
    have hs : signN (l.getD 0 0) (r.getD 0 0) = 1 := by
     rcases hz with h | h
     ·rw [h]; exact hN
     ·have := neu_wo h
      refine sign_neu hN this.2.2.2.1 ⟨?_, ?_⟩
      ·rintro e
       rw [e] at h
       rcases h with h | h
       ·cases h
       ·revert h; decide
      ·rintro e
       rw [e] at h
       rcases h with h | h
       ·cases h
       ·revert h; decide
    have hd' : ¬(dgB (l.getD 0 0) = true ∨ (l.getD 0 0 = 46 ∧ dgB (r.getD 0 0) = true)) := by
     rcases hz with h | h
     ·rw [h]; exact hd
     ·rintro (h3 | h3)
      ·exact hd (.inl h3)
      ·have := (neu_wo h).2.1
       rw [this] at h3
       cases h3.2
    unfold tokS
    rw [h0, h1, if_neg hl, if_neg hd', hs]
    rfl
theorem skip_tok {l r : List UInt8} (hl : l ≠ []) (hs : skipS l = (0, true)) (he : (tokS l).e = 0) (hz : r.getD 0 0 = l.getD (tokS l).m 0 ∨ neu (r.getD 0 0)) : skipS (l.take (tokS l).m ++ r) = (0, true) := by
 obtain ⟨hml, hm1⟩ := tok_m l
 have hm1 := hm1 he
 cases l with
 | nil => exact absurd rfl hl
 | cons c t =>
  have hb : blB c = false := by
   cases h : blB c with
   | false => rfl
   | true =>
    rw [skip_blank h] at hs
    have := congrArg Prod.fst hs
    simp only [up] at this
    omega
  obtain ⟨n, hn⟩ : ∃ n, (tokS (c :: t)).m = n + 1 := ⟨(tokS (c :: t)).m - 1, by omega⟩
  rw [hn] at hz hml ⊢
  rw [List.take_succ_cons, List.cons_append]
  refine skip_stop hb fun ⟨h47, hh⟩ => ?_
  subst h47
  have hd : ∀ d, (t.take n ++ r).head? = some d → d = 47 ∨ d = 42 → False := fun d h h2 => by
   cases n with
   | zero =>
    simp only [List.take_zero, List.nil_append] at h
    have hr : r.getD 0 0 = d := by cases r <;> simp_all
    rw [hr] at hz
    rcases hz with h3 | h3
    ·cases t with
     | nil =>
      simp only [List.getD_cons_succ, List.getD_nil] at h3
      rcases h2 with h2 | h2 <;> (rw [h2] at h3; cases h3)
     | cons x t =>
      simp only [List.getD_cons_succ, List.getD_cons_zero] at h3
      subst h3
      rcases h2 with rfl | rfl
      ·rw [skip_line rfl] at hs
       have := congrArg Prod.fst hs
       have := lineN_pos (t := 47 :: t) (c := 47) rfl
       simp only [up] at *
       omega
      ·cases he' : endN ((42 :: t).drop 1) with
       | none => rw [skip_open rfl he'] at hs; cases hs
       | some k =>
        rw [skip_block rfl he'] at hs
        have := congrArg Prod.fst hs
        simp only [up] at this
        omega
    ·have := neu_wo h3
     rcases h2 with h2 | h2
     ·exact this.2.2.2.2.1 h2
     ·exact this.2.2.2.2.2 h2
   | succ n =>
    cases t with
    | nil => simp at hml
    | cons x t =>
     simp only [List.take_succ_cons, List.cons_append, List.head?_cons, Option.some.injEq] at h
     subst h
     have hx : tokS (47 :: x :: t) = ⟨0, 4, signN 47 x, 0⟩ ∨ (tokS (47 :: x :: t)).e ≠ 0 := by
      unfold tokS
      simp only [List.getD_cons_zero, List.getD_cons_succ]
      rw [if_neg Zf6, if_neg (by
       rintro (h | h)
       ·revert h; decide
       ·exact absurd h.1 Zf6)]
      split
      ·exact .inr Zf6
      ·exact .inl rfl
     rcases hx with hx | hx
     ·rw [hx] at hn
      dsimp only at hn
      have : signN 47 x = 1 := by
       rcases h2 with rfl | rfl <;> decide
      omega
     ·exact hx he
  rcases hh with hh | hh
  ·exact hd _ hh (.inl rfl)
  ·exact hd _ hh (.inr rfl)
end Go.Proofs.YtbinaeemcidicaaGreatDoor
namespace Go.Proofs.YtbinaeemcidicaaGreatDoor
def Ch (s : List UInt8) : Nat → List Tk → Prop
 | i, [] => i ≤ s.length ∧ skipS (s.drop i) = (s.length - i, true)
 | i, t :: l => i ≤ s.length ∧ ∃ q, i ≤ q ∧ q < s.length ∧ skipS (s.drop i) = (q - i, true) ∧ (tokS (s.drop q)).e = 0 ∧ t = tkAt s q ∧ Ch s (q + (tokS (s.drop q)).m) l
theorem ch_of_lex (s : List UInt8) : ∀ (f i : Nat) (acc L : List Tk) (p : Nat), s.length < f + i → i ≤ s.length → lexF s f i acc = (L, 0, p) → ∃ l, L = acc ++ l ∧ Ch s i l
 | 0, i, _, _, _, h, hi, _ => by omega
 | f + 1, i, acc, L, p, h, hi, he => by
  have hsl := skip_le (s.drop i)
  rw [List.length_drop] at hsl
  simp only [lexF] at he
  split at he
  ·cases he
  ·rename_i h1
   have h1 : (skipS (s.drop i)).2 = true := by simpa using h1
   split at he
   ·rename_i h2
    obtain ⟨rfl, _, _⟩ := Prod.mk.injEq .. ▸ he
    exact ⟨[], by simp, hi, by rw [← h1]; exact Prod.ext (by simp only; omega) rfl⟩
   ·rename_i h2
    split at he
    ·rename_i h3
     have := congrArg (fun x => x.2.1) he
     exact absurd this h3
    ·rename_i h3
     have h3 := Decidable.not_not.1 h3
     have h4 := err_tok h3
     obtain ⟨hm1, hm2⟩ := tok_m (s.drop (i + (skipS (s.drop i)).1))
     have hm2 := hm2 h4
     rw [List.length_drop] at hm1
     obtain ⟨l, hl, hc⟩ := ch_of_lex s f _ _ L p Zf7 Zf7 he
     refine ⟨tkAt s (i + (skipS (s.drop i)).1) :: l, by rw [hl]; simp, hi, i + (skipS (s.drop i)).1, by omega, by omega, ?_, h4, rfl, hc⟩
     rw [← h1]
     exact Prod.ext (by simp only; omega) rfl
theorem lex_of_ch {s : List UInt8} : ∀ {l : List Tk} {i : Nat} (acc : List Tk), Ch s i l → acc.length + l.length ≤ 2048 → lexR s i acc = (acc ++ l, 0, 0)
 | [], i, acc, h, _ => by
  obtain ⟨hi, hs⟩ := h
  rw [lexR_eq s i acc hi, hs, if_neg Zgh, if_pos (by simp only; omega)]
  simp
 | t :: l, i, acc, h, hl => by
  obtain ⟨hi, q, h1, h2, h3, h4, rfl, h5⟩ := h
  simp only [List.length_cons] at hl
  have hq : i + (q - i) = q := by omega
  have he : errAt s q acc.length = 0 := by
   unfold errAt
   rw [if_neg Zf7, h4]
  rw [lexR_eq s i acc hi, h3]
  dsimp only
  rw [hq, if_neg Zgh, if_neg Zf7, if_neg (by simp [he]), lex_of_ch (acc ++ [tkAt s q]) h5 Zja]
  simp
theorem ch_of_lexS {s : List UInt8} {L : List Tk} {p : Nat} (h : lexS s = (L, 0, p)) : s.length ≤ 8192 ∧ Ch s 0 L ∧ L.length ≤ 2048 := by
 by_cases hl : 8192 < s.length
 ·unfold lexS at h
  rw [if_pos hl] at h
  cases h
 ·have hlen : ∀ (f i : Nat) (acc : List Tk), acc.length ≤ 2048 → (lexF s f i acc).1.length ≤ 2048 := fun f => by
   induction f with
   | zero => exact fun _ _ h => h
   | succ f ih =>
    intro i acc ha
    simp only [lexF]
    split
    ·simp
    ·split
     ·exact ha
     ·split
      ·simp
      ·rename_i he
       have he := Decidable.not_not.1 he
       refine ih _ _ ?_
       have : acc.length ≠ 2048 := fun hc => by
        have h0 := err_tok he
        unfold errAt at he
        rw [if_pos ⟨.inl h0, hc⟩] at he
        cases he
       simp
       omega
  unfold lexS at h
  rw [if_neg hl] at h
  obtain ⟨l, hl', hc⟩ := ch_of_lex s (s.length + 1) 0 [] L p Zf7 (Nat.zero_le _) h
  have hn := hlen (s.length + 1) 0 [] Zgh
  rw [h] at hn
  rw [List.nil_append] at hl'
  subst hl'
  exact ⟨by omega, hc, hn⟩
theorem lexS_of_ch {s : List UInt8} {L : List Tk} (hs : s.length ≤ 8192) (h : Ch s 0 L) (hl : L.length ≤ 2048) : lexS s = (L, 0, 0) := by
 rw [lexS_eq hs, lex_of_ch [] h (by simpa using hl)]
 rfl
end Go.Proofs.YtbinaeemcidicaaGreatDoor
namespace Go.Proofs.YtbinaeemcidicaaGreatDoor
def core (t : Tk) : Int × List UInt8 × Int := (t.k, t.t, t.x)
theorem skip_blanks : ∀ {b : List UInt8} (r : List UInt8), (∀ c ∈ b, blB c = true) → skipS (b ++ r) = up b.length (skipS r)
 | [], r, _ => by simp [up_zero]
 | c :: b, r, h => by
  rw [List.cons_append, skip_blank (h c (List.mem_cons_self ..)), skip_blanks r (fun d hd => h d (List.mem_cons_of_mem _ hd)), up_up, List.length_cons, Nat.add_comm]
theorem skip_at {l : List UInt8} {n : Nat} (h : skipS l = (n, true)) (hn : n < l.length) : skipS (l.drop n) = (0, true) := by
 have := skip_app l.length l (l.drop n) (Nat.le_refl _) (by rw [h]) (by rw [h]; exact hn)
 rw [h] at this
 dsimp only at this
 rw [List.take_append_drop, h] at this
 have h1 := congrArg Prod.fst this
 have h2 := congrArg Prod.snd this
 simp only [up] at h1 h2
 exact Prod.ext (by simp only; omega) h2.symm
section
variable {s b : List UInt8} {k : Nat}
end
end Go.Proofs.YtbinaeemcidicaaGreatDoor
namespace Go.Proofs.YtbinaeemcidicaaGreatDoor
def slf (s : List UInt8) (k x : Int) : Prop := s.length ≤ 8192 ∧ s ≠ [] ∧ skipS s = (0, true) ∧ tokS s = ⟨0, k, s.length, x⟩
theorem tkAt_core {s : List UInt8} {q m : Nat} {k x : Int} (h : tokS (s.drop q) = ⟨0, k, m, x⟩) : core (tkAt s q) = (k, (s.drop q).take m, x) := by
 unfold core tkAt
 rw [h]
theorem slf_of_lex {s : List UInt8} {u : Tk} {p : Nat} (h : lexS s = ([u], 0, p)) (hu : u.t = s) : slf s u.k u.x := by
 obtain ⟨h1, h2, _⟩ := ch_of_lexS h
 obtain ⟨_, q, _, h3, h4, h5, rfl, _⟩ := h2
 have hm := (tok_m (s.drop q)).1
 have hl : ((s.drop q).take (tokS (s.drop q)).m).length = s.length := congrArg List.length hu
 rw [List.length_take, List.length_drop] at hl
 rw [List.length_drop] at hm
 obtain rfl : q = 0 := by omega
 simp only [List.drop_zero, Nat.sub_zero] at h4 h5 hm hl ⊢
 refine ⟨h1, fun e => by rw [e] at h3; simp at h3, h4, ?_⟩
 unfold tkAt
 simp only [List.drop_zero]
 have hml : (tokS s).m = s.length := by omega
 rw [← h5, ← hml]
theorem lex_of_slf {s : List UInt8} {k x : Int} (h : slf s k x) : lexS s = ([⟨k, s, x, 0, 0⟩], 0, 0) := by
 obtain ⟨h1, h2, h3, h4⟩ := h
 have hp : 0 < s.length := List.length_pos_iff.2 h2
 refine lexS_of_ch h1 ⟨Nat.zero_le _, 0, Nat.le_refl _, hp, h3, by rw [List.drop_zero, h4], ?_, ?_⟩ Zgh
 ·unfold tkAt
  rw [List.drop_zero, h4, List.take_length]
  rfl
 ·rw [List.drop_zero, h4]
  refine ⟨by simp, ?_⟩
  simp only [Nat.zero_add, List.drop_length, Nat.sub_self]
  exact skip_nil
theorem slf_app {s r : List UInt8} {k x : Int} (h : slf s k x) (hz : neu (r.getD 0 0)) : skipS (s ++ r) = (0, true) ∧ tokS (s ++ r) = ⟨0, k, s.length, x⟩ := by
 obtain ⟨h1, h2, h3, h4⟩ := h
 have e0 : (tokS s).e = 0 := by rw [h4]
 have a := tok_app (l := s) (r := r) e0 (.inr hz)
 have b := skip_tok (l := s) (r := r) h2 h3 e0 (.inr hz)
 rw [h4] at a b
 simp only [List.take_length] at a b
 exact ⟨b, a⟩
theorem slf_of_ch {s : List UInt8} (hs : s.length ≤ 8192) : ∀ {l : List Tk} {i : Nat}, Ch s i l → ∀ u ∈ l, slf u.t u.k u.x
 | [], _, _, u, hu => by cases hu
 | t :: l, i, h, u, hu => by
  obtain ⟨_, q, h1, h2, h3, h4, rfl, h5⟩ := h
  rcases List.mem_cons.1 hu with rfl | hu
  ·obtain ⟨m0, m1⟩ := tok_m (s.drop q)
   have m1 := m1 h4
   rw [List.length_drop] at m0
   have hsk : skipS (s.drop q) = (0, true) := by
    have := skip_at (l := s.drop i) h3 (by rw [List.length_drop]; omega)
    rwa [List.drop_drop, show i + (q - i) = q by omega] at this
   have hz : neu (([] : List UInt8).getD 0 0) := .inl rfl
   have a := tok_app (l := s.drop q) (r := []) h4 (.inr hz)
   have b := skip_tok (l := s.drop q) (r := []) (by intro e; have := congrArg List.length e; simp at this; omega) hsk h4 (.inr hz)
   rw [List.append_nil] at a b
   have hl : ((s.drop q).take (tokS (s.drop q)).m).length = (tokS (s.drop q)).m := by rw [List.length_take, List.length_drop]; omega
   refine ⟨?_, ?_, b, ?_⟩
   ·show ((s.drop q).take (tokS (s.drop q)).m).length ≤ 8192
    omega
   ·intro e
    have := congrArg List.length e
    rw [List.length_nil] at this
    have h6 : (tkAt s q).t.length = (tokS (s.drop q)).m := hl
    omega
   ·show tokS ((s.drop q).take (tokS (s.drop q)).m) = ⟨0, (tokS (s.drop q)).k, ((s.drop q).take (tokS (s.drop q)).m).length, (tokS (s.drop q)).x⟩
    rw [a, hl, ← h4]
  ·exact slf_of_ch hs h5 u hu
theorem whole_big : ∀ (l : List UInt8) (n : Nat), min (n * 10 ^ l.length) 32768 ≤ l.foldl (fun n b => min (n * 10 + (b.toNat - 48)) 32768) n
 | [], n => by simp; omega
 | b :: l, n => by
  have ih := whole_big l (min (n * 10 + (b.toNat - 48)) 32768)
  rw [List.foldl_cons]
  refine Nat.le_trans ?_ ih
  have hp : 1 ≤ 10 ^ l.length := Nat.pos_of_ne_zero Zgh
  rw [List.length_cons, Nat.pow_succ]
  rcases Nat.le_total (n * 10 + (b.toNat - 48)) 32768 with h | h
  ·rw [Nat.min_eq_left h]
   have : n * (10 ^ l.length * 10) ≤ (n * 10 + (b.toNat - 48)) * 10 ^ l.length := by
    rw [Nat.add_mul, show n * (10 ^ l.length * 10) = n * 10 * 10 ^ l.length by rw [Nat.mul_assoc, Nat.mul_comm 10]]
    exact Nat.le_add_right _ _
   omega
  ·rw [Nat.min_eq_right h]
   have : 32768 ≤ 32768 * 10 ^ l.length := Nat.le_mul_of_pos_right _ hp
   omega
theorem slf_len {s : List UInt8} {k x : Int} (h : slf s k x) : s.length ≤ 64 := by
 obtain ⟨_, _, _, h4⟩ := h
 have he : (tokS s).e = 0 := by rw [h4]
 have hm : (tokS s).m = s.length := by rw [h4]
 rw [← hm]
 unfold tokS at he ⊢
 split at he
 ·rename_i h1
  rw [if_pos h1]
  split at he
  ·cases he
  ·rename_i h2
   rw [if_neg h2]
   show runN woB s ≤ 64
   omega
 ·rename_i h1
  rw [if_neg h1]
  split at he
  ·rename_i h2
   rw [if_pos h2]
   unfold numS at he ⊢
   split at he
   ·cases he
   ·rename_i h3
    rw [if_neg h3]
    split at he
    ·cases he
    ·rename_i h5
     rw [if_neg h5]
     have hnl := numN_le s
     split at he
     ·rename_i h6
      rw [if_pos h6]
      show numN s ≤ 64
      unfold parseS at he
      split at he
      ·cases he
      ·rename_i h7
       rw [List.length_take] at h7
       omega
     ·rename_i h6
      rw [if_neg h6]
      split at he
      ·cases he
      ·rename_i h7
       rw [if_neg h7]
       show numN s ≤ 64
       rcases Nat.lt_or_ge 64 (numN s) with h8 | h8
       ·exfalso
        have hd : dgB (s.getD 0 0) = true := by
         rcases h2 with h2 | ⟨h2, _⟩
         ·exact h2
         ·exfalso
          apply h6
          unfold numP
          have : runN dgB s = 0 := by
           cases s with
           | nil => rfl
           | cons c s =>
            simp only [List.getD_cons_zero] at h2
            subst h2
            rfl
          rw [this]
          exact h2
        have h0 : s.getD 0 0 ≠ 48 := fun e => h5 ⟨h6, by omega, e⟩
        cases s with
        | nil => simp at hnl; omega
        | cons c s =>
         simp only [List.getD_cons_zero] at hd h0
         have hc := dgB_iff.1 hd
         have hc' : c.toNat ≠ 48 := fun e => h0 (UInt8.toNat_inj.1 e)
         obtain ⟨j, hj⟩ : ∃ j, numN (c :: s) = j + 1 := ⟨numN (c :: s) - 1, by omega⟩
         rw [hj, List.take_succ_cons] at h7
         rw [hj] at hnl h8
         simp only [List.length_cons] at hnl
         have hb := whole_big (s.take j) (min (0 * 10 + (c.toNat - 48)) 32768)
         have hw : wholeS 32768 (c :: s.take j) = (s.take j).foldl (fun n b => min (n * 10 + (b.toNat - 48)) 32768) (min (0 * 10 + (c.toNat - 48)) 32768) := rfl
         rw [← hw, List.length_take, Nat.min_eq_left (show j ≤ s.length by omega)] at hb
         have h9 : 10 ^ 5 ≤ 10 ^ j := Nat.pow_le_pow_right Zf6 Zf7
         have h10 : 10 ^ j ≤ min (0 * 10 + (c.toNat - 48)) 32768 * 10 ^ j := Nat.le_mul_of_pos_left _ Zf7
         omega
       ·exact h8
  ·rename_i h2
   rw [if_neg h2]
   split at he
   ·cases he
   ·rename_i h3
    rw [if_neg h3]
    show signN _ _ ≤ 64
    unfold signN
    repeat' split
    all_goals decide
def slfB (c : Int × List UInt8 × Int) : Bool := decide ((lexS c.2.1).2.1 = 0 ∧ (lexS c.2.1).1.map core = [c])
theorem slfB_iff {k x : Int} {s : List UInt8} : slfB (k, s, x) = true ↔ slf s k x := by
 unfold slfB
 rw [decide_eq_true_iff]
 constructor
 ·rintro ⟨h1, h2⟩
  obtain ⟨R, hR⟩ : ∃ R, lexS s = R := ⟨_, rfl⟩
  simp only at h1 h2
  rw [hR] at h1 h2
  obtain ⟨L, e, p⟩ := R
  simp only at h1 h2
  subst h1
  match L, h2 with
  | [u], h2 =>
   simp only [List.map_cons, List.map_nil, List.cons.injEq, and_true, core, Prod.mk.injEq] at h2
   obtain ⟨rfl, h3, rfl⟩ := h2
   exact slf_of_lex hR h3
 ·intro h
  have := lex_of_slf h
  simp only
  rw [this]
  exact ⟨rfl, rfl⟩
def prR : Option Int → List (Int × List UInt8) → List UInt8
 | _, [] => []
 | none, (n, t) :: l => t ++ prR (some n) l
 | some m, (n, t) :: l => (if m < n then 10 else 32) :: (t ++ prR (some n) l)
theorem pr_neu (n : Int) (l : List (Int × List UInt8)) : neu ((prR (some n) l).getD 0 0) := by
 cases l with
 | nil => exact .inl rfl
 | cons y l =>
  right
  simp only [prR, List.getD_cons_zero]
  split <;> rfl
theorem pr_ch {T : List UInt8} : ∀ (l : List (Int × Int × List UInt8 × Int)) (p : Option Int) (i : Nat), (∀ y ∈ l, slf y.2.2.1 y.2.1 y.2.2.2) → i ≤ T.length → T.drop i = prR p (l.map fun y => (y.1, y.2.2.1)) → ∃ M, Ch T i M ∧ M.map core = l.map (·.2)
 | [], p, i, _, hi, h => by
  refine ⟨[], ⟨hi, ?_⟩, rfl⟩
  have h : T.drop i = [] := by rw [h]; cases p <;> rfl
  have hl := congrArg List.length h
  simp at hl
  rw [h, show T.length - i = 0 by omega]
  exact skip_nil
 | (n, k, s, x) :: l, p, i, hs, hi, h => by
  have h0 : slf s k x := hs (n, k, s, x) (List.mem_cons_self ..)
  obtain ⟨R, hR⟩ : ∃ R, prR (some n) (l.map fun y => (y.1, y.2.2.1)) = R := ⟨_, rfl⟩
  obtain ⟨b, hb, hd⟩ : ∃ b : List UInt8, (∀ c ∈ b, blB c = true) ∧ T.drop i = b ++ (s ++ R) := by
   cases p with
   | none => exact ⟨[], by simp, by rw [h, ← hR]; rfl⟩
   | some m =>
    refine ⟨[if m < n then 10 else 32], ?_, by rw [h, ← hR]; rfl⟩
    intro c hc
    rw [List.mem_singleton] at hc
    rw [hc]
    split <;> rfl
  have hz : neu (R.getD 0 0) := by rw [← hR]; exact pr_neu _ _
  obtain ⟨a1, a2⟩ := slf_app h0 hz
  have hsl : 0 < s.length := List.length_pos_iff.2 h0.2.1
  have hlen := congrArg List.length hd
  simp only [List.length_drop, List.length_append] at hlen
  have hq : T.drop (i + b.length) = s ++ R := by rw [← List.drop_drop, hd, List.drop_left]
  have hq2 : T.drop (i + b.length + s.length) = prR (some n) (l.map fun y => (y.1, y.2.2.1)) := by rw [← List.drop_drop, hq, List.drop_left, hR]
  obtain ⟨M, m1, m2⟩ := pr_ch l (some n) (i + b.length + s.length) (fun y hy => hs y (List.mem_cons_of_mem _ hy)) Zf7 hq2
  have ht : tokS (T.drop (i + b.length)) = ⟨0, k, s.length, x⟩ := by rw [hq, a2]
  refine ⟨tkAt T (i + b.length) :: M, ⟨hi, i + b.length, by omega, by omega, ?_, by rw [ht], rfl, by rw [ht]; exact m1⟩, ?_⟩
  ·rw [hd, skip_blanks _ hb, a1, show i + b.length - i = b.length by omega]
   rfl
  ·rw [List.map_cons, List.map_cons, m2, tkAt_core ht, hq, List.take_left]
theorem lex_slf {s : List UInt8} {L : List Tk} {p : Nat} (h : lexS s = (L, 0, p)) : ∀ u ∈ L, slfB (core u) = true := fun u hu => by
 obtain ⟨h1, h2, _⟩ := ch_of_lexS h
 exact slfB_iff.2 (slf_of_ch h1 h2 u hu)
end Go.Proofs.YtbinaeemcidicaaGreatDoor
