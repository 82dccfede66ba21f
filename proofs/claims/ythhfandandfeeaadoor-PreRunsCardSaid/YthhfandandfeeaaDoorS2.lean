/- What a token is told as: plain laws. No condition. -/
import Derived.Test.YthhfandandfeeaaDoorS1
import Derived.Test.YthhfandandfeeaaDoorTA
namespace Go.Proofs.YthhfandandfeeaaDoor
theorem runL_app (s : Nat → Tk → Option (List Tk × Nat)) : ∀ (l m : List Tk) (d : Nat), runL s d (l ++ m) = match runL s d l with
    | none => none
    | some (y, d') => match runL s d' m with
      | none => none
      | some (z, d'') => some (y ++ z, d'')
  | [], m, d => by
    simp only [List.nil_append, runL]
    cases runL s d m with
    | none => rfl
    | some p => rfl
  | t :: l, m, d => by
    simp only [List.cons_append, runL]
    cases h : s d t with
    | none => rfl
    | some p =>
      obtain ⟨x, d'⟩ := p
      simp only [runL_app s l m d']
      cases runL s d' l with
      | none => rfl
      | some p =>
        obtain ⟨y, d''⟩ := p
        simp only
        cases runL s d'' m with
        | none => rfl
        | some p => simp
theorem runL_one (s : Nat → Tk → Option (List Tk × Nat)) (d : Nat) (t : Tk) : runL s d [t] = s d t := by
  simp only [runL]
  cases s d t with
  | none => rfl
  | some p => simp
theorem runL_snoc {s : Nat → Tk → Option (List Tk × Nat)} {l : List Tk} {d d' j : Nat} {y : List Tk} (hj : j < l.length) (h : runL s d (l.take j) = some (y, d')) :
    runL s d (l.take (j + 1)) = match s d' (l.getD j tk0) with
      | none => none
      | some (x, d'') => some (y ++ x, d'') := by
  rw [takeD hj, runL_app, h]
  simp only [runL_one]
/-- a part that goes wrong makes the whole go wrong; the whole is no shorter than a part -/
theorem runL_part {s : Nat → Tk → Option (List Tk × Nat)} {l : List Tk} {d j : Nat} : (runL s d (l.take j) = none → runL s d l = none) ∧
    (∀ y d', runL s d (l.take j) = some (y, d') → runL s d l = none ∨ ∃ x d'', runL s d l = some (x, d'') ∧ y.length ≤ x.length) := by
  have e := runL_app s (l.take j) (l.drop j) d
  rw [List.take_append_drop] at e
  refine ⟨fun h => by rw [e, h], fun y d' h => ?_⟩
  rw [e, h]
  dsimp only
  cases runL s d' (l.drop j) with
  | none => exact .inl rfl
  | some p =>
    obtain ⟨z, d''⟩ := p
    exact .inr ⟨_, _, rfl, by simp⟩
theorem runL_mono {s : Nat → Tk → Option (List Tk × Nat)} {b : Nat} (hs : ∀ d t x d', s d t = some (x, d') → d ≤ d' ∧ (d ≤ b → d' ≤ b)) : ∀ (l : List Tk) (d : Nat) x d', runL s d l = some (x, d') → d ≤ d' ∧ (d ≤ b → d' ≤ b)
  | [], d, x, d', h => by
    simp only [runL, Option.some.injEq, Prod.mk.injEq] at h
    omega
  | t :: l, d, x, d', h => by
    simp only [runL] at h
    cases h1 : s d t with
    | none => rw [h1] at h; cases h
    | some p =>
      obtain ⟨x1, d1⟩ := p
      rw [h1] at h
      simp only at h
      cases h2 : runL s d1 l with
      | none => rw [h2] at h; cases h
      | some p =>
        obtain ⟨x2, d2⟩ := p
        rw [h2] at h
        simp only [Option.some.injEq, Prod.mk.injEq] at h
        have := hs _ _ _ _ h1
        have := runL_mono hs l _ _ _ h2
        omega
theorem expF_mono {V : Wds} {a n : Nat} : ∀ (f : Nat) (wi : List Nm) (d : Nat) (t : Tk) (x : List Tk) (d' : Nat), expF V a n f wi d t = some (x, d') → d ≤ d' ∧ (d ≤ 2048 → d' ≤ 2048)
  | 0, _, _, _, _, _, h => by cases h
  | f + 1, wi, d, t, x, d', h => by
    simp only [expF] at h
    split at h
    · simp only [Option.some.injEq, Prod.mk.injEq] at h
      omega
    · split at h
      · cases h
      · have := runL_mono (s := expF V a n f (t.t :: wi)) (b := 2048) (fun d u x d' h => expF_mono f (t.t :: wi) d u x d' h) _ _ _ _ h
        omega
theorem expF_stay {V : Wds} {a n f d : Nat} {wi : List Nm} {t : Tk} (h : t.k ≠ 1 ∨ wi.contains t.t = true ∨ standsB V t.t = false) : expF V a n (f + 1) wi d t = some ([stay t a n], d) := by
  rw [expF, if_pos h]
theorem expF_over {V : Wds} {a n f d : Nat} {wi : List Nm} {t : Tk} (h : ¬(t.k ≠ 1 ∨ wi.contains t.t = true ∨ standsB V t.t = false)) (hd : 2048 ≤ d) : expF V a n (f + 1) wi d t = none := by
  rw [expF, if_neg h, if_pos hd]
theorem expF_body {V : Wds} {a n f d : Nat} {wi : List Nm} {t : Tk} (h : ¬(t.k ≠ 1 ∨ wi.contains t.t = true ∨ standsB V t.t = false)) (hd : ¬2048 ≤ d) : expF V a n (f + 1) wi d t = runL (expF V a n f (t.t :: wi)) (d + 1) (bodyW V t.t n) := by
  rw [expF, if_neg h, if_neg hd]
/-- how a replacement may end, behind so many tokens -/
structure PutQ where
  b : Bool
  x : List Tk
  d : Nat
  c : Nat
  o : Go.PB.Ow
def Res (r : Option (List Tk × Nat)) (n : Nat) (q : PutQ) : Prop := (q.b = true ∧ r = some (q.x, q.d) ∧ n + q.x.length ≤ 2048) ∨ (q.b = false ∧ (r = none ∨ ∃ x d, r = some (x, d) ∧ 2048 < n + x.length))
theorem res_fail {s : Nat → Tk → Option (List Tk × Nat)} {l : List Tk} {d d' j n : Nat} {y : List Tk} {r : Option (List Tk × Nat)} (hj : j < l.length) (h : runL s d (l.take j) = some (y, d')) (hr : runL s d l = r)
    (hb : s d' (l.getD j tk0) = none ∨ ∃ x d2, s d' (l.getD j tk0) = some (x, d2) ∧ 2048 < n + y.length + x.length) : r = none ∨ ∃ x d2, r = some (x, d2) ∧ 2048 < n + x.length := by
  have h1 := runL_snoc hj h
  obtain ⟨p1, p2⟩ := runL_part (s := s) (l := l) (d := d) (j := j + 1)
  rw [hr] at p1 p2
  rcases hb with hb | ⟨x, d2, hb, hx⟩
  · rw [hb] at h1
    exact .inl (p1 h1)
  · rw [hb] at h1
    rcases p2 _ _ h1 with h2 | ⟨z, d3, h2, h3⟩
    · exact .inl h2
    · rw [List.length_append] at h3
      exact .inr ⟨z, d3, h2, by omega⟩
end Go.Proofs.YthhfandandfeeaaDoor
