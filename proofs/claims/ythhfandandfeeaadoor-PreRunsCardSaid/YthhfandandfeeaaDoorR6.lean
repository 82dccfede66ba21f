/- Walks of functions of this seat, and what they compute: lemmas for the proofs of its statements. No condition. -/
import Derived.Test.YthhfandandfeeaaDoorR5
namespace Go.Proofs.YthhfandandfeeaaDoor
open Go.PB Go.RowKit
theorem idx_at : ∀ {t : List UInt8} {c : UInt8}, 0 ≤ Lib.indexByte t c → t = t.take (Lib.indexByte t c).toNat ++ c :: t.drop ((Lib.indexByte t c).toNat + 1) ∧ ∀ b ∈ t.take (Lib.indexByte t c).toNat, b ≠ c
  | [], c, h => by simp [Lib.indexByte] at h
  | b :: t, c, h => by
    by_cases hb : b = c
    · subst hb
      have e : Lib.indexByte (b :: t) b = 0 := by simp [Lib.indexByte]
      rw [e]
      simp
    · have hb' : ¬(b == c) = true := by simpa using hb
      have hge := (indexByte_le t c).2
      simp only [Lib.indexByte, if_neg hb'] at h ⊢
      by_cases hm : Lib.indexByte t c = -1
      · rw [if_pos (by rw [hm]; rfl)] at h; omega
      · have hm' : ¬(Lib.indexByte t c == -1) = true := by simpa using hm
        rw [if_neg hm'] at h ⊢
        obtain ⟨h1, h2⟩ := idx_at (t := t) (c := c) (by omega)
        rw [show (Lib.indexByte t c + 1).toNat = (Lib.indexByte t c).toNat + 1 by omega]
        constructor
        · simp only [List.take_succ_cons, List.drop_succ_cons, List.cons_append]
          rw [← h1]
        · simpa [hb] using h2
theorem idx_no : ∀ {t : List UInt8} {c : UInt8}, ¬0 ≤ Lib.indexByte t c → c ∉ t
  | [], c, _ => by simp
  | b :: t, c, h => by
    by_cases hb : b = c
    · subst hb
      exact absurd (by simp [Lib.indexByte]) h
    · have hb' : ¬(b == c) = true := by simpa using hb
      have hge := (indexByte_le t c).2
      simp only [Lib.indexByte, if_neg hb'] at h
      by_cases hm : Lib.indexByte t c = -1
      · have := idx_no (t := t) (c := c) (by omega)
        simp [this, Ne.symm hb]
      · have hm' : ¬(Lib.indexByte t c == -1) = true := by simpa using hm
        rw [if_neg hm'] at h
        omega
theorem scan_digits : ∀ {t : List UInt8} {i : Nat} {p : Int} {c : Nat}, (∀ b ∈ t, isD b) → scanS t i p c = some (p, c + t.length)
  | [], _, _, _, _ => rfl
  | b :: r, i, p, c, h => by
    simp only [scanS, if_pos (h b (by simp))]
    rw [scan_digits (fun x hx => h x (by simp [hx]))]
    simp; omega
theorem scan_point {ys : List UInt8} (hy : ∀ b ∈ ys, isD b) : ∀ {xs : List UInt8} {i : Nat} {p : Int} {c : Nat}, (∀ b ∈ xs, isD b) → p < 0 → scanS (xs ++ 46 :: ys) i p c = some (((i + xs.length : Nat) : Int), c + xs.length + ys.length)
  | [], i, p, c, _, hp => by
    have h46 : ¬isD 46 := by unfold isD; decide
    simp only [List.nil_append, scanS, if_neg h46]
    rw [if_pos ⟨trivial, hp⟩, scan_digits hy]
    simp
  | b :: r, i, p, c, h, hp => by
    simp only [List.cons_append, scanS, if_pos (h b (by simp))]
    rw [scan_point hy (fun x hx => h x (by simp [hx])) hp]
    simp; omega
theorem whole_min (l : List UInt8) : wholeS 65536 l = min (wholeS 1048576 l) 65536 := by
  have : ∀ (l : List UInt8) (a n : Nat), a = min n 65536 → l.foldl (fun n b => min (n * 10 + (b.toNat - 48)) 65536) a = min (l.foldl (fun n b => min (n * 10 + (b.toNat - 48)) 1048576) n) 65536 := by
    intro l
    induction l with
    | nil => intro a n h; exact h
    | cons b l ih =>
      intro a n h
      simp only [List.foldl_cons]
      apply ih
      omega
  exact this l 0 0 (by omega)
theorem num_same (mi : Prop) [Decidable mi] (wh : List UInt8) (ds : List Nat) (hd : ∀ d ∈ ds, d < 10) :
    rawS (if mi then -(((wholeS 65536 wh * 131072 + binS 17 0 ds + 1) / 2 : Nat) : Int) else ((wholeS 65536 wh * 131072 + binS 17 0 ds + 1) / 2 : Nat)) =
      rawS (if mi then -(((binS 17 (wholeS 1048576 wh) ds + 1) / 2 : Nat) : Int) else ((binS 17 (wholeS 1048576 wh) ds + 1) / 2 : Nat)) := by
  have h1 := binS_lin 17 (wholeS 1048576 wh) ds
  have h2 := binS_lt 17 0 ds hd
  have h3 := whole_min wh
  rw [h1, h3]
  generalize wholeS 1048576 wh = N
  generalize binS 17 0 ds = B at h2
  unfold rawS
  split <;> omega
theorem after02_zero (mi : Bool) (t : List UInt8) (p : Int) : after02 mi t (some (p, 0)) = (0, 120) := rfl
theorem after02_pos (mi : Bool) (t : List UInt8) (p : Int) {c : Nat} (h : c ≠ 0) : after02 mi t (some (p, c)) = (num02 mi p t, 0) := by simp [after02, h]
theorem wh02_at (k : Nat) (t : List UInt8) : wh02 (k : Int) t = t.take k := by simp [wh02]
theorem pa02_at (k : Nat) (t : List UInt8) : pa02 (k : Int) t = t.drop (k + 1) := by simp [pa02]
theorem parse_same (l : List UInt8) : parseS l = parse02S l := by
  unfold parseS parse02S
  by_cases hl : 40 < l.length
  · rw [if_pos hl, if_pos hl]
  · rw [if_neg hl, if_neg hl]
    generalize (if l.head? = some 45 then l.tail else l) = t
    simp only
    have h46 : ∀ b : UInt8, isD b → b ≠ 46 := fun b hb e => by subst e; revert hb; unfold isD; decide
    by_cases hi : 0 ≤ Lib.indexByte t 46
    · have hcut : cutS t 46 = (t.take (Lib.indexByte t 46).toNat, t.drop ((Lib.indexByte t 46).toNat + 1), true) := by unfold cutS; rw [if_pos hi]
      obtain ⟨h1, h2⟩ := idx_at hi
      have hlt := (indexByte_le t 46).1
      rw [hcut]
      simp only
      generalize hk : (Lib.indexByte t 46).toNat = k at *
      by_cases hall : ∀ b ∈ t.take k ++ t.drop (k + 1), isD b
      · have hx : ∀ b ∈ t.take k, isD b := fun b hb => hall b (by simp [hb])
        have hy : ∀ b ∈ t.drop (k + 1), isD b := fun b hb => hall b (by simp [hb])
        have hs := scan_point hy (i := 0) (p := -1) (c := 0) hx (by omega)
        rw [← h1] at hs
        rw [hs, if_neg (not_not_intro hall)]
        have hkl : (t.take k).length = k := by simp; omega
        rw [hkl, Nat.zero_add]
        by_cases he : t.take k ++ t.drop (k + 1) = []
        · have hz : k + (t.drop (k + 1)).length = 0 := by
            have := congrArg List.length he
            simp only [List.length_append, hkl, List.length_nil] at this
            exact this
          rw [hz, after02_zero, if_pos he]
        · have hz : k + (t.drop (k + 1)).length ≠ 0 := by
            intro h0
            apply he
            apply List.eq_nil_of_length_eq_zero
            simp only [List.length_append, hkl]
            exact h0
          rw [after02_pos _ _ _ hz, if_neg he]
          have := num_same (l.head? = some 45) (t.take k) (digs (t.drop (k + 1))) (digs_lt hy)
          rw [this]
          unfold num02
          rw [wh02_at, pa02_at]
          simp
      · rw [if_pos hall]
        have hsn : after02 (decide (l.head? = some 45)) t (scanS t 0 (-1) 0) = (0, 120) := by
          cases hs : scanS t 0 (-1) 0 with
          | none => rfl
          | some q =>
            obtain ⟨p, c⟩ := q
            exfalso
            rcases scan_some hs with ⟨_, ha, _⟩ | ⟨_, k', hk', _, h4, h5, h6, _⟩
            · have hm : (46 : UInt8) ∈ t := by rw [h1]; simp
              exact h46 _ (ha _ hm) rfl
            · have hkk : k' = k := by
                rcases Nat.lt_trichotomy k' k with h | h | h
                · exfalso
                  have hm : t.getD k' 0 ∈ t.take k := by
                    have e : t.getD k' 0 = (t.take k).getD k' 0 := by simp [List.getD, List.getElem?_take, h]
                    rw [e]
                    exact getD_mem (by simp; omega)
                  exact h2 _ hm h4
                · exact h
                · exfalso
                  have hkt : t.getD k 0 = 46 := by
                    rw [h1]
                    have hkl : (t.take k).length = k := by simp; omega
                    simp [List.getD, List.getElem?_append_right, hkl]
                  have hm : t.getD k 0 ∈ t.take k' := by
                    have e : t.getD k 0 = (t.take k').getD k 0 := by simp [List.getD, List.getElem?_take, h]
                    rw [e]
                    exact getD_mem (by simp; omega)
                  exact h46 _ (h5 _ hm) hkt
              subst hkk
              exact hall fun b hb => by
                rcases List.mem_append.1 hb with hb | hb
                · exact h5 b hb
                · exact h6 b hb
        rw [hsn]
        split <;> rfl
    · have hcut : cutS t 46 = (t, [], false) := by unfold cutS; rw [if_neg hi]
      have h46t := idx_no hi
      rw [hcut]
      simp only [List.append_nil]
      by_cases hall : ∀ b ∈ t, isD b
      · have hs := scan_digits (i := 0) (p := -1) (c := 0) hall
        rw [hs, if_neg (not_not_intro hall)]
        by_cases he : t = []
        · subst he; rfl
        · have hz : 0 + t.length ≠ 0 := by
            intro h0
            apply he
            apply List.eq_nil_of_length_eq_zero
            omega
          rw [after02_pos _ _ _ hz, if_neg he]
          have := num_same (l.head? = some 45) t (digs []) (by simp [digs])
          rw [this]
          unfold num02
          rw [show wh02 (-1) t = t from rfl, show pa02 (-1) t = [] from rfl]
          simp
      · rw [if_pos hall]
        have hsn : after02 (decide (l.head? = some 45)) t (scanS t 0 (-1) 0) = (0, 120) := by
          cases hs : scanS t 0 (-1) 0 with
          | none => rfl
          | some q =>
            obtain ⟨p, c⟩ := q
            exfalso
            rcases scan_some hs with ⟨_, ha, _⟩ | ⟨_, k', hk', _, h4, _⟩
            · exact hall ha
            · exact h46t (by rw [← h4]; exact getD_mem hk')
        rw [hsn]
        split <;> rfl
end Go.Proofs.YthhfandandfeeaaDoor
