/- What a text says to the layer that stands ahead of the parser, in plain Lean. No condition. -/
import Derived.Test.YthhfandandfeeaaDoorP2
import Derived.Lib.ItoaNum
namespace Go.Proofs.YthhfandandfeeaaDoor
abbrev Nm := List UInt8
def nLINE : Nm := [95, 95, 76, 73, 78, 69, 95, 95]
def nVER : Nm := [95, 95, 86, 69, 82, 83, 73, 79, 78, 95, 95]
def nES : Nm := [71, 76, 95, 69, 83]
def uuB : Nm → Bool
  | [] => false
  | a :: l => (a == 95 && l.head? == some 95) || uuB l
/-- is a word not everybody's? -/
def keptB (w : Nm) : Bool := w.take 3 == [71, 76, 95] || uuB w
abbrev Wds := List (Nm × List Tk)
def wget : Wds → Nm → Option (List Tk)
  | [], _ => none
  | (k, v) :: r, n => if k = n then some v else wget r n
def wdel (W : Wds) (n : Nm) : Wds := W.filter fun p => !(p.1 == n)
def standsB (W : Wds) (n : Nm) : Bool := n == nLINE || n == nVER || (wget W n).isSome
def stay (t : Tk) (a n : Nat) : Tk := ⟨t.k, t.t, t.x, a, n⟩
/-- an int as a token -/
def numT (m : Nat) : Tk := ⟨2, Lib.decDigits m, (m : Int) * 65536, 0, 0⟩
def bodyW (W : Wds) (n : Nm) (ln : Nat) : List Tk := if n = nLINE then [numT (ln + 1)] else if n = nVER then [numT 100] else (wget W n).getD []
def runL (s : Nat → Tk → Option (List Tk × Nat)) : Nat → List Tk → Option (List Tk × Nat)
  | d, [] => some ([], d)
  | d, t :: l => match s d t with
    | none => none
    | some (x, d') => match runL s d' l with
      | none => none
      | some (y, d'') => some (x ++ y, d'')
/-- what a token is told as, within words; how many words were replaced by then -/
def expF (W : Wds) (a n : Nat) : Nat → List Nm → Nat → Tk → Option (List Tk × Nat)
  | 0, _, _, _ => none
  | f + 1, wi, d, t =>
    if t.k ≠ 1 ∨ wi.contains t.t = true ∨ standsB W t.t = false then some ([stay t a n], d)
    else if 2048 ≤ d then none
    else runL (expF W a n f (t.t :: wi)) (d + 1) (bodyW W t.t n)
def expS (W : Wds) (t : Tk) : Option (List Tk) := (expF W t.at_ t.ln 2050 [] 0 t).map (·.1)
structure Pt where
  turned : Bool
  counts : Bool
  other : Bool
def cntB (P : List Pt) : Bool := P.all (·.counts)
/-- is a row of tokens just a word? -/
def oneW : List Tk → Option Nm
  | [t] => if t.k = 1 then some t.t else none
  | _ => none
def isVer : List Tk → Bool
  | [t] => decide (t.k = 2) && t.t == [49, 48, 48]
  | _ => false
/-- what a directive does; none: it may not be there -/
def dirS (W : Wds) (P : List Pt) (first : Bool) : List Tk → Option (Wds × List Pt)
  | [] => some (W, P)
  | h :: rest =>
    if h.k ≠ 1 then (if cntB P = true then none else some (W, P))
    else if h.t = [101, 108, 115, 101] then (match P.getLast? with
      | none => none
      | some p => if p.turned = true then none else some (W, P.dropLast ++ [⟨true, p.other, false⟩]))
    else if h.t = [101, 110, 100, 105, 102] then (if P = [] then none else some (W, P.dropLast))
    else if h.t = [105, 102, 100, 101, 102] ∨ h.t = [105, 102, 110, 100, 101, 102] then (
      if cntB P = false then some (W, P ++ [⟨false, false, false⟩])
      else match oneW rest with
        | none => none
        | some n => some (W, P ++ [⟨false, standsB W n == (h.t == [105, 102, 100, 101, 102]), !(standsB W n == (h.t == [105, 102, 100, 101, 102]))⟩]))
    else if cntB P = false then some (W, P)
    else if h.t = [118, 101, 114, 115, 105, 111, 110] then (if first = true ∧ isVer rest = true then some (W, P) else none)
    else if h.t = [100, 101, 102, 105, 110, 101] then (match rest with
      | [] => none
      | n :: l => if n.k ≠ 1 ∨ keptB n.t = true ∨ standsB W n.t = true then none else some ((n.t, l) :: W, P))
    else if h.t = [117, 110, 100, 101, 102] then (match oneW rest with
      | none => none
      | some n => if keptB n = true then none else some (wdel W n, P))
    else none
/-- tokens told behind others; none: there are too many, at the token's place -/
def putS (W : Wds) : List Tk → List Tk → List Tk ⊕ Nat
  | out, [] => .inl out
  | out, t :: l => match expS W t with
    | none => .inr t.at_
    | some x => if 2048 < out.length + x.length then .inr t.at_ else putS W (out ++ x) l
structure Ms where
  W : Wds
  P : List Pt
  out : List Tk
def rowS (first : Bool) (s : Ms) : List Tk → Ms ⊕ (Int × Nat)
  | [] => .inl s
  | h :: rest =>
    if h.k = 4 ∧ h.t = [35] then (match dirS s.W s.P first rest with
      | none => .inr (210, h.at_)
      | some r => .inl ⟨r.1, r.2, s.out⟩)
    else if cntB s.P = false then .inl s
    else match putS s.W s.out (h :: rest) with
      | .inl out => .inl ⟨s.W, s.P, out⟩
      | .inr p => .inr (3, p)
def rowsS : Bool → Ms → List (List Tk) → Ms ⊕ (Int × Nat)
  | _, s, [] => .inl s
  | first, s, r :: l => match rowS first s r with
    | .inl s' => rowsS false s' l
    | .inr e => .inr e
abbrev tk0 : Tk := ⟨0, [], 0, 0, 0⟩
/-- tokens line by line: the first so many -/
def linesN (l : List Tk) : Nat → List (List Tk)
  | 0 => []
  | j + 1 => if j = 0 ∨ (l.getD (j - 1) tk0).ln ≠ (l.getD j tk0).ln then linesN l j ++ [[l.getD j tk0]] else (linesN l j).dropLast ++ [(linesN l j).getLastD [] ++ [l.getD j tk0]]
def linesS (l : List Tk) : List (List Tk) := linesN l l.length
def preS (s : Nm) : List Tk × Int × Nat :=
  if (lexS s).2.1 ≠ 0 then ([], (lexS s).2)
  else match rowsS true ⟨[(nES, [numT 1])], [], []⟩ (linesS (lexS s).1) with
    | .inr e => ([], e)
    | .inl m => if m.P = [] then (m.out, 0, 0) else ([], 210, s.length)
/-- rows of tokens, each of one line, no two lines side by side one -/
structure RowsOk (l : List Tk) (R : List (List Tk)) : Prop where
  all : R.flatten = l
  row : ∀ r ∈ R, r ≠ [] ∧ ∀ t ∈ r, t.ln = (r.headD tk0).ln
  apart : ∀ Q r q Q', R = Q ++ r :: q :: Q' → (r.headD tk0).ln ≠ (q.headD tk0).ln
theorem takeD {l : List Tk} {j : Nat} (hj : j < l.length) : l.take (j + 1) = l.take j ++ [l.getD j tk0] := by rw [List.take_succ_eq_append_getElem hj]; simp [List.getD, hj]
theorem snoc_of {α : Type} {l : List α} (h : l ≠ []) : ∃ Q r, l = Q ++ [r] := ⟨l.dropLast, l.getLast h, (List.dropLast_concat_getLast h).symm⟩
theorem snoc_split {α : Type} {Q Q1 Q2 : List α} {r a b : α} (h : Q ++ [r] = Q1 ++ a :: b :: Q2) : (∃ Q3, Q = Q1 ++ a :: b :: Q3) ∨ (Q = Q1 ++ [a] ∧ r = b ∧ Q2 = []) := by
  rcases List.eq_nil_or_concat Q2 with rfl | ⟨Q4, x, rfl⟩
  · right
    have h : Q ++ [r] = (Q1 ++ [a]) ++ [b] := by simpa using h
    obtain ⟨h1, h2⟩ := List.append_inj' h rfl
    exact ⟨h1, by simpa using h2, rfl⟩
  · left
    have h : Q ++ [r] = (Q1 ++ a :: b :: Q4) ++ [x] := by simpa using h
    obtain ⟨h1, _⟩ := List.append_inj' h rfl
    exact ⟨Q4, h1⟩
theorem linesN_ok (l : List Tk) : ∀ j, j ≤ l.length → RowsOk (l.take j) (linesN l j)
  | 0, _ => ⟨by simp [linesN], by simp [linesN], fun Q r q Q' h => by simp [linesN] at h⟩
  | j + 1, hj => by
    obtain ⟨h1, h2, h3⟩ := linesN_ok l j (by omega)
    have hlast : 0 < j → ∃ Q r, linesN l j = Q ++ [r] ∧ (r.headD tk0).ln = (l.getD (j - 1) tk0).ln := fun h0 => by
      have hne : linesN l j ≠ [] := fun e => by
        rw [e] at h1
        have := congrArg List.length h1
        simp at this
        omega
      obtain ⟨Q, r, hr⟩ := snoc_of hne
      refine ⟨Q, r, hr, ?_⟩
      obtain ⟨hr0, hr1⟩ := h2 r (by rw [hr]; simp)
      obtain ⟨q, x, hq⟩ := snoc_of hr0
      rw [← hr1 x (by rw [hq]; simp)]
      congr 1
      have e1 : Q.flatten ++ q ++ [x] = l.take (j - 1) ++ [l.getD (j - 1) tk0] := by
        rw [← takeD (by omega), show j - 1 + 1 = j by omega, ← h1, hr, hq]
        simp
      have := (List.append_inj' e1 rfl).2
      simpa using this
    rw [takeD (by omega)]
    simp only [linesN]
    split
    · rename_i hc
      refine ⟨by simp [h1], fun r hr => ?_, fun Q r q Q' h => ?_⟩
      · rcases List.mem_append.1 hr with hr | hr
        · exact h2 r hr
        · rw [List.mem_singleton] at hr
          subst hr
          exact ⟨by simp, fun t ht => by rw [List.mem_singleton] at ht; rw [ht]; rfl⟩
      · rcases snoc_split h with ⟨Q3, h4⟩ | ⟨h4, rfl, _⟩
        · exact h3 Q r q Q3 h4
        · have h0 : 0 < j := by
            rcases Nat.eq_zero_or_pos j with h | h
            · subst h
              simp [linesN] at h4
            · exact h
          obtain ⟨Q5, r5, h5, h6⟩ := hlast h0
          rw [h4] at h5
          obtain ⟨_, h7⟩ := List.append_inj' h5 rfl
          have h7 : r = r5 := by simpa using h7
          rw [h7, h6]
          rcases hc with hc | hc
          · omega
          · exact hc
    · rename_i hc
      have hc1 : 0 < j := by
        rcases Nat.eq_zero_or_pos j with h | h
        · exact absurd (.inl h) hc
        · exact h
      have hc2 : (l.getD (j - 1) tk0).ln = (l.getD j tk0).ln := Decidable.not_not.1 fun h => hc (.inr h)
      obtain ⟨Q, r, h5, h6⟩ := hlast hc1
      obtain ⟨hr0, hr1⟩ := h2 r (by rw [h5]; simp)
      have hh : ((r ++ [l.getD j tk0]).headD tk0) = r.headD tk0 := by
        cases r with
        | nil => exact absurd rfl hr0
        | cons a r => rfl
      rw [h5]
      simp only [List.dropLast_concat, List.getLastD_concat]
      refine ⟨?_, fun r' hr' => ?_, fun Q1 r1 q1 Q1' h => ?_⟩
      · rw [← h1, h5]
        simp
      · rcases List.mem_append.1 hr' with hr' | hr'
        · exact h2 r' (by rw [h5]; exact List.mem_append_left _ hr')
        · rw [List.mem_singleton] at hr'
          subst hr'
          refine ⟨by simp, fun t ht => ?_⟩
          rw [hh]
          rcases List.mem_append.1 ht with ht | ht
          · exact hr1 t ht
          · rw [List.mem_singleton] at ht
            rw [ht, h6, hc2]
      · rcases snoc_split h with ⟨Q3, h4⟩ | ⟨h4, rfl, _⟩
        · exact h3 Q1 r1 q1 (Q3 ++ [r]) (by rw [h5, h4]; simp)
        · rw [hh]
          exact h3 Q1 r1 r [] (by rw [h5, h4]; simp)
theorem linesS_ok (l : List Tk) : RowsOk l (linesS l) := by
  have := linesN_ok l l.length (Nat.le_refl _)
  rwa [List.take_length] at this
end Go.Proofs.YthhfandandfeeaaDoor
