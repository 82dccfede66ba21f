/- Walks of functions of this seat, and what they compute: lemmas for the proofs of its statements. No condition. -/
import Derived.Test.YtoicghljdndpeaaP5
namespace Go.Proofs.Ytoicghljdndpeaa
open Go.PB Go.RowKit
/-- letter by letter -/
def matchT : List UInt8 → List (Int × Int) → Int → Prop
  | [], [], _ => True
  | x :: xs, t :: ts, G => t = sizedS x.toNat G ∧ matchT xs ts G
  | _, _, _ => False
instance matchD : (xs : List UInt8) → (ts : List (Int × Int)) → (G : Int) → Decidable (matchT xs ts G)
  | [], [], _ => inferInstanceAs (Decidable True)
  | x :: xs, t :: ts, G => @instDecidableAnd _ _ _ (matchD xs ts G)
  | [], _ :: _, _ => inferInstanceAs (Decidable False)
  | _ :: _, [], _ => inferInstanceAs (Decidable False)
theorem matchT_iff : ∀ (xs : List UInt8) (ts : List (Int × Int)) (G : Int), xs.length = ts.length → ((∀ i < ts.length, ts.getD i (0, 0) = sizedS (xs.getD i 0).toNat G) ↔ matchT xs ts G)
  | [], [], _, _ => by simp [matchT]
  | x :: xs, t :: ts, G, h => by
    have ih := matchT_iff xs ts G (by simpa using h)
    simp only [matchT, ← ih]
    constructor
    · intro hh
      refine ⟨by simpa using hh 0 (by simp), fun i hi => ?_⟩
      have := hh (i + 1) (by simpa using hi)
      simpa using this
    · rintro ⟨h1, h2⟩ i hi
      cases i with
      | zero => simpa using h1
      | succ i => simpa using h2 i (by simpa using hi)
  | [], _ :: _, _, h => by simp at h
  | _ :: _, [], _, h => by simp at h
theorem takesS_eq (h : List UInt8 × UInt8) (ts : List (Int × Int)) : takesS h ts = if matchT h.1 ts (gsize h.1 ts) then (sizedS h.2.toNat (gsize h.1 ts), true) else ((0, 0), false) := by
  unfold takesS
  by_cases hl : h.1.length = ts.length
  · rw [if_neg (by simpa using hl)]
    by_cases hm : matchT h.1 ts (gsize h.1 ts)
    · rw [if_pos hm, if_pos ((matchT_iff _ _ _ hl).2 hm)]
    · rw [if_neg hm, if_neg (fun e => hm ((matchT_iff _ _ _ hl).1 e))]
  · rw [if_pos hl, if_neg]
    have : ∀ (xs : List UInt8) (ts : List (Int × Int)) (G : Int), matchT xs ts G → xs.length = ts.length := by
      intro xs
      induction xs with
      | nil => intro ts G h; cases ts <;> simp_all [matchT]
      | cons x xs ih => intro ts G h; cases ts with
        | nil => simp [matchT] at h
        | cons t ts => simp only [matchT] at h; simp [ih ts G h.2]
    exact fun e => hl (this _ _ _ e)
theorem num_fn : ∀ r ∈ fnTab, (numS r.1 : Nat) = r.2.1 := by decide +kernel
theorem num_none {l : List UInt8} (h : fget fnTab l = none) : numS l = 0 := by
  have key : ∀ (T : List FnRow), fget T l = none → ∀ r ∈ T, r.1 ≠ l := by
    intro T
    induction T with
    | nil => intro _ r hr; simp at hr
    | cons r T ih =>
      obtain ⟨w, k, hs⟩ := r
      intro h0 r hr
      simp only [fget] at h0
      split at h0
      · cases h0
      · rename_i hne
        rcases List.mem_cons.1 hr with rfl | hr
        · exact hne
        · exact ih h0 r hr
  have hk := key fnTab h
  have hmem : ∀ w ∈ fnL, ∃ r ∈ fnTab, r.1 = w := by decide +kernel
  refine nidx_no (fun m => ?_)
  intro hm
  obtain ⟨r, hr, e⟩ := hmem l (List.mem_of_getElem? hm)
  exact hk r hr e
theorem fn_same (ts : List (Int × Int)) (hm : ∀ t ∈ ts, mayP t) : ∀ r ∈ fnTab, (match firstS r.2.2 ts with | some u => (u, (r.2.1 : Int), (0 : Int)) | none => ((0, 0), 0, 230)) = refF r.2.1 ts := by
  intro r hr
  simp only [fnTab, List.mem_cons, List.not_mem_nil, or_false] at hr
  match ts, hm with
  | [], _ =>
    rcases hr with rfl | rfl | rfl | rfl | rfl | rfl | rfl | rfl | rfl | rfl | rfl | rfl | rfl | rfl | rfl | rfl | rfl | rfl | rfl | rfl | rfl | rfl <;>
      simp [firstS, takesS_eq, matchT, refF]
  | [(x, y)], hm =>
    have h1 := hm (x, y) (by simp)
    simp only [mayP] at h1
    rcases hr with rfl | rfl | rfl | rfl | rfl | rfl | rfl | rfl | rfl | rfl | rfl | rfl | rfl | rfl | rfl | rfl | rfl | rfl | rfl | rfl | rfl | rfl <;>
      simp [firstS, takesS_eq, matchT, refF, sizedS, gsize, Lib.indexByte, c30, c32, c34, c36, c38, c40, same, flP, tat] <;> (try grind)
  | [(x, y), (p, q)], hm =>
    have h1 := hm (x, y) (by simp)
    have h2 := hm (p, q) (by simp)
    simp only [mayP] at h1 h2
    rcases hr with rfl | rfl | rfl | rfl | rfl | rfl | rfl | rfl | rfl | rfl | rfl | rfl | rfl | rfl | rfl | rfl | rfl | rfl | rfl | rfl | rfl | rfl <;>
      simp [firstS, takesS_eq, matchT, refF, sizedS, gsize, Lib.indexByte, c30, c32, c34, c36, c38, c40, same, flP, tat] <;> (try grind)
  | [(x, y), (p, q), (u, v)], hm =>
    have h1 := hm (x, y) (by simp)
    have h2 := hm (p, q) (by simp)
    have h3 := hm (u, v) (by simp)
    simp only [mayP] at h1 h2 h3
    rcases hr with rfl | rfl | rfl | rfl | rfl | rfl | rfl | rfl | rfl | rfl | rfl | rfl | rfl | rfl | rfl | rfl | rfl | rfl | rfl | rfl | rfl | rfl <;>
      simp [firstS, takesS_eq, matchT, refF, sizedS, gsize, Lib.indexByte, c30, c32, c34, c36, c38, c40, same, flP, tat] <;> (try grind)
  | a :: b :: c :: d :: l, _ =>
    rcases hr with rfl | rfl | rfl | rfl | rfl | rfl | rfl | rfl | rfl | rfl | rfl | rfl | rfl | rfl | rfl | rfl | rfl | rfl | rfl | rfl | rfl | rfl <;>
      simp [firstS, takesS_eq, matchT, refF, c30, c32, c34, c36, c38, c40]
end Go.Proofs.Ytoicghljdndpeaa
