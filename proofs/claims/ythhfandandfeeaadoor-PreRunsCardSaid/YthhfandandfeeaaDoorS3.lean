/- Tokens as they may come from outside, line by line. No condition. -/
import Derived.Test.YthhfandandfeeaaDoorS1
import Derived.Test.YthhfandandfeeaaDoorTA
namespace Go.Proofs.YthhfandandfeeaaDoor
open Go.PB Go.RowKit
/-- tokens as they may come from outside: with places of any kind -/
structure Ti where
  k : Int
  t : List UInt8
  x : Int
  a : Int
  n : Int
def tiC (t : Ti) : List Value := [.int .i64 t.k, st t.t, .int .i32 t.x, .int .i64 t.a, .int .i64 t.n]
def tisC (l : List Ti) : List Value := l.flatMap tiC
def tiOf (t : Tk) : Ti := ⟨t.k, t.t, t.x, t.at_, t.ln⟩
theorem tisC_of (l : List Tk) : tisC (l.map tiOf) = tksC l := by
  induction l with
  | nil => rfl
  | cons t l ih =>
    show tiC (tiOf t) ++ tisC (l.map tiOf) = tkC t ++ tksC l
    rw [ih]
    rfl
theorem tisC_get : ∀ {l : List Ti} {j i : Nat} {v : Value}, j < l.length → (tiC (l.getD j ⟨0, [], 0, 0, 0⟩))[i]? = some v → (tisC l)[j * 5 + i]? = some v
  | [], j, _, _, h, _ => by simp at h
  | t :: l, 0, i, v, _, h => by
    rw [show tisC (t :: l) = tiC t ++ tisC l from rfl, Nat.zero_mul, Nat.zero_add]
    simp only [List.getD_cons_zero] at h
    have hi : i < (tiC t).length := by
      obtain ⟨h, _⟩ := List.getElem?_eq_some_iff.1 h
      exact h
    rw [List.getElem?_append_left hi]
    exact h
  | t :: l, j + 1, i, v, h, h2 => by
    rw [show tisC (t :: l) = tiC t ++ tisC l from rfl]
    have h5 : (tiC t).length = 5 := rfl
    rw [List.getElem?_append_right (by omega), show (j + 1) * 5 + i - (tiC t).length = j * 5 + i by omega]
    exact tisC_get (l := l) (by simpa using h) (by simpa using h2)
abbrev ti0 : Ti := ⟨0, [], 0, 0, 0⟩
/-- tokens line by line: the first so many -/
def linesI (l : List Ti) : Nat → List (List Ti)
  | 0 => []
  | j + 1 => if j = 0 ∨ (l.getD (j - 1) ti0).n ≠ (l.getD j ti0).n then linesI l j ++ [[l.getD j ti0]] else (linesI l j).dropLast ++ [(linesI l j).getLastD [] ++ [l.getD j ti0]]
def linesJ (l : List Ti) : List (List Ti) := linesI l l.length
/-- rows of tokens, each of one line, no two lines side by side one -/
structure RowsI (l : List Ti) (R : List (List Ti)) : Prop where
  all : R.flatten = l
  row : ∀ r ∈ R, r ≠ [] ∧ ∀ t ∈ r, t.n = (r.headD ti0).n
  apart : ∀ Q r q Q', R = Q ++ r :: q :: Q' → (r.headD ti0).n ≠ (q.headD ti0).n
theorem takeI {l : List Ti} {j : Nat} (hj : j < l.length) : l.take (j + 1) = l.take j ++ [l.getD j ti0] := by rw [List.take_succ_eq_append_getElem hj]; simp [List.getD, hj]
theorem linesI_ok (l : List Ti) : ∀ j, j ≤ l.length → RowsI (l.take j) (linesI l j)
  | 0, _ => ⟨by simp [linesI], by simp [linesI], fun Q r q Q' h => by simp [linesI] at h⟩
  | j + 1, hj => by
    obtain ⟨h1, h2, h3⟩ := linesI_ok l j (by omega)
    have hlast : 0 < j → ∃ Q r, linesI l j = Q ++ [r] ∧ (r.headD ti0).n = (l.getD (j - 1) ti0).n := fun h0 => by
      have hne : linesI l j ≠ [] := fun e => by
        rw [e] at h1
        have := congrArg List.length h1
        simp at this
        omega
      obtain ⟨Q, r, hr⟩ := snoc_of hne
      refine ⟨Q, r, hr, ?_⟩
      obtain ⟨hr0, hr1⟩ := h2 r (by rw [hr]; simp)
      obtain ⟨q, x, hq⟩ := snoc_of hr0
      rw [← hr1 x (by rw [hq]; simp)]
      congr 1
      have e1 : Q.flatten ++ q ++ [x] = l.take (j - 1) ++ [l.getD (j - 1) ti0] := by
        rw [← takeI (by omega), show j - 1 + 1 = j by omega, ← h1, hr, hq]
        simp
      have := (List.append_inj' e1 rfl).2
      simpa using this
    rw [takeI (by omega)]
    simp only [linesI]
    split
    · rename_i hc
      refine ⟨by simp [h1], fun r hr => ?_, fun Q r q Q' h => ?_⟩
      · rcases List.mem_append.1 hr with hr | hr
        · exact h2 r hr
        · rw [List.mem_singleton] at hr
          subst hr
          exact ⟨by simp, fun t ht => by rw [List.mem_singleton] at ht; rw [ht]; rfl⟩
      · rcases snoc_split h with ⟨Q3, h4⟩ | ⟨h4, rfl, _⟩
        · exact h3 Q r q Q3 h4
        · have h0 : 0 < j := by
            rcases Nat.eq_zero_or_pos j with h | h
            · subst h
              simp [linesI] at h4
            · exact h
          obtain ⟨Q5, r5, h5, h6⟩ := hlast h0
          rw [h4] at h5
          obtain ⟨_, h7⟩ := List.append_inj' h5 rfl
          have h7 : r = r5 := by simpa using h7
          rw [h7, h6]
          rcases hc with hc | hc
          · omega
          · exact hc
    · rename_i hc
      have hc1 : 0 < j := by
        rcases Nat.eq_zero_or_pos j with h | h
        · exact absurd (.inl h) hc
        · exact h
      have hc2 : (l.getD (j - 1) ti0).n = (l.getD j ti0).n := Decidable.not_not.1 fun h => hc (.inr h)
      obtain ⟨Q, r, h5, h6⟩ := hlast hc1
      obtain ⟨hr0, hr1⟩ := h2 r (by rw [h5]; simp)
      have hh : ((r ++ [l.getD j ti0]).headD ti0) = r.headD ti0 := by
        cases r with
        | nil => exact absurd rfl hr0
        | cons a r => rfl
      rw [h5]
      simp only [List.dropLast_concat, List.getLastD_concat]
      refine ⟨?_, fun r' hr' => ?_, fun Q1 r1 q1 Q1' h => ?_⟩
      · rw [← h1, h5]
        simp
      · rcases List.mem_append.1 hr' with hr' | hr'
        · exact h2 r' (by rw [h5]; exact List.mem_append_left _ hr')
        · rw [List.mem_singleton] at hr'
          subst hr'
          refine ⟨by simp, fun t ht => ?_⟩
          rw [hh]
          rcases List.mem_append.1 ht with ht | ht
          · exact hr1 t ht
          · rw [List.mem_singleton] at ht
            rw [ht, h6, hc2]
      · rcases snoc_split h with ⟨Q3, h4⟩ | ⟨h4, rfl, _⟩
        · exact h3 Q1 r1 q1 (Q3 ++ [r]) (by rw [h5, h4]; simp)
        · rw [hh]
          exact h3 Q1 r1 r [] (by rw [h5, h4]; simp)
theorem tiOf_getD (l : List Tk) (j : Nat) : (l.map tiOf).getD j ti0 = tiOf (l.getD j tk0) := by
  rw [List.getD_eq_getElem?_getD, List.getElem?_map, List.getD_eq_getElem?_getD]
  cases l[j]? <;> rfl
theorem linesI_of (l : List Tk) : ∀ j, linesI (l.map tiOf) j = (linesN l j).map (List.map tiOf)
  | 0 => rfl
  | j + 1 => by
    simp only [linesI, linesN, linesI_of l j, tiOf_getD]
    have e : (tiOf (l.getD (j - 1) tk0)).n ≠ (tiOf (l.getD j tk0)).n ↔ (l.getD (j - 1) tk0).ln ≠ (l.getD j tk0).ln := by
      simp only [tiOf]
      omega
    by_cases h : j = 0 ∨ (l.getD (j - 1) tk0).ln ≠ (l.getD j tk0).ln
    · rw [if_pos h, if_pos (h.imp id e.2)]
      simp
    · rw [if_neg h, if_neg fun h2 => h (h2.imp id e.1)]
      rcases Decidable.em (linesN l j = []) with h0 | h0
      · simp [h0]
      · obtain ⟨Q, r, hr⟩ := snoc_of h0
        simp [hr]
theorem linesJ_of (l : List Tk) : linesJ (l.map tiOf) = (linesS l).map (List.map tiOf) := by
  unfold linesJ linesS
  rw [List.length_map]
  exact linesI_of l l.length
end Go.Proofs.YthhfandandfeeaaDoor
