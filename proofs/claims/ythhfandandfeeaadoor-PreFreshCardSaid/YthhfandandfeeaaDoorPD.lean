/- Texts and rows put one behind another; what is skipped, a word defined, a word that stands for tokens: plain laws. No condition. -/
import Derived.Test.YthhfandandfeeaaDoorP7
import Derived.Test.YthhfandandfeeaaDoorP2
namespace Go.Proofs.YthhfandandfeeaaDoor
theorem runN_halt {p : UInt8 → Bool} {z : UInt8} (hz : p z = false) : ∀ (l r : List UInt8), runN p (l ++ z :: r) = runN p l
  | [], r => by simp [runN, hz]
  | c :: l, r => by
    simp only [List.cons_append, runN]
    rw [runN_halt hz l r]
theorem up_eq {n m k : Nat} {r : Nat × Bool} (h : up n r = (m, true)) (hk : m = n + k) : r = (k, true) := by
  obtain ⟨a, b⟩ := r
  simp only [up, Prod.mk.injEq] at h
  obtain ⟨h1, rfl⟩ := h
  congr 1
  omega
/-- blanks and comments to the end, and a line feed behind -/
theorem skip_nl : ∀ (k : Nat) (l r : List UInt8), l.length ≤ k → skipS l = (l.length, true) → skipS (l ++ 10 :: r) = up (l.length + 1) (skipS r)
  | _, [], r, _, _ => by
    rw [List.nil_append, skip_blank (by decide)]
    rfl
  | 0, c :: t, _, hk, _ => by simp at hk
  | k + 1, c :: t, r, hk, h => by
    simp only [List.length_cons] at hk
    rw [List.cons_append]
    by_cases hb : blB c = true
    · rw [skip_blank hb] at h
      have h1 := up_eq h (k := t.length) (by simp; omega)
      rw [skip_blank hb, skip_nl k t r (by omega) h1, up_up]
      simp only [List.length_cons]
      congr 1
      omega
    · by_cases hl : c = 47 ∧ t.head? = some 47
      · obtain ⟨rfl, hh⟩ := hl
        have hh2 : (t ++ 10 :: r).head? = some 47 := by
          cases t with
          | nil => cases hh
          | cons d t => simpa using hh
        have e1 : lineN (47 :: (t ++ 10 :: r)) = lineN (47 :: t) := runN_halt (by decide) (47 :: t) r
        have hm := runN_le (fun b => !(b.toNat == 10)) (47 :: t)
        have hp := lineN_pos (c := 47) (t := t) rfl
        obtain ⟨m, hmm⟩ : ∃ m, lineN (47 :: t) = m := ⟨_, rfl⟩
        rw [show runN (fun b => !(b.toNat == 10)) (47 :: t) = m from hmm] at hm
        rw [hmm] at e1 hp
        rw [skip_line hh, hmm] at h
        rw [skip_line hh2, e1]
        have hd : (47 :: (t ++ 10 :: r)).drop m = (47 :: t).drop m ++ 10 :: r := by
          rw [← List.cons_append, List.drop_append_of_le_length hm]
        have hlen : ((47 :: t).drop m).length = t.length + 1 - m := by simp
        have h1 := up_eq h (k := ((47 :: t).drop m).length) (by rw [hlen]; simp at hm ⊢; omega)
        rw [hd, skip_nl k _ r (by rw [hlen]; omega) h1, up_up, hlen]
        simp only [List.length_cons] at hm ⊢
        congr 1
        omega
      · by_cases hc : c = 47 ∧ t.head? = some 42
        · obtain ⟨rfl, hh⟩ := hc
          cases t with
          | nil => cases hh
          | cons d t =>
            have hd : d = 42 := by simpa using hh
            subst hd
            cases he : endN ((42 :: t).drop 1) with
            | none =>
              rw [skip_open hh he] at h
              cases h
            | some n =>
              have hlt := endN_lt he
              simp only [List.drop_succ_cons, List.drop_zero] at he hlt
              have he2 : endN (((42 :: t) ++ 10 :: r).drop 1) = some n := by
                simp only [List.cons_append, List.drop_succ_cons, List.drop_zero]
                exact endN_app _ he
              rw [skip_block hh (by simpa using he)] at h
              rw [skip_block (by simp) he2]
              have hd : (47 :: (42 :: t ++ 10 :: r)).drop (n + 4) = (47 :: 42 :: t).drop (n + 4) ++ 10 :: r := by
                rw [← List.cons_append, List.drop_append_of_le_length (by simp; omega)]
              have hlen : ((47 :: 42 :: t).drop (n + 4)).length = t.length + 2 - (n + 4) := by simp
              have h1 := up_eq h (k := ((47 :: 42 :: t).drop (n + 4)).length) (by rw [hlen]; simp; omega)
              rw [hd, skip_nl k _ r (by rw [hlen]; simp only [List.length_cons] at hk; omega) h1, up_up, hlen]
              simp only [List.length_cons]
              congr 1
              omega
        · rw [skip_stop (by simpa using hb) (by rintro ⟨rfl, h | h⟩; exact hl ⟨rfl, h⟩; exact hc ⟨rfl, h⟩)] at h
          simp at h
/-- a token moved -/
def mvT (a n : Nat) (t : Tk) : Tk := ⟨t.k, t.t, t.x, t.at_ + a, t.ln + n⟩
def nlC (z : UInt8) : Nat := if z = 10 then 1 else 0
theorem nl_cat (A B : List UInt8) (z : UInt8) (q : Nat) : nlN ((A ++ z :: B).take (A.length + 1 + q)) = nlN (B.take q) + (nlN A + nlC z) := by
  rw [show A.length + 1 + q = A.length + (q + 1) by omega, List.take_append, List.take_of_length_le (by omega), show A.length + (q + 1) - A.length = q + 1 by omega, List.take_succ_cons]
  unfold nlN nlC
  rw [List.count_append, List.count_cons]
  simp only [beq_iff_eq]
  split <;> omega
theorem drop_cat (A B : List UInt8) (z : UInt8) (q : Nat) : (A ++ z :: B).drop (A.length + 1 + q) = B.drop q := by
  rw [show A.length + 1 + q = (q + 1) + A.length by omega, List.drop_append, List.drop_of_length_le (by omega), List.nil_append, show q + 1 + A.length - A.length = q + 1 by omega, List.drop_succ_cons]
theorem tkAt_cat (A B : List UInt8) (z : UInt8) (q : Nat) : tkAt (A ++ z :: B) (A.length + 1 + q) = mvT (A.length + 1) (nlN A + nlC z) (tkAt B q) := by
  unfold tkAt mvT
  rw [drop_cat, nl_cat, Nat.add_comm (A.length + 1) q]
theorem ch_shift (A : List UInt8) (z : UInt8) : ∀ {l : List Tk} {B : List UInt8} {j : Nat}, Ch B j l → Ch (A ++ z :: B) (A.length + 1 + j) (l.map (mvT (A.length + 1) (nlN A + nlC z)))
  | [], B, j, ⟨h1, h2⟩ => by
    refine ⟨by simp; omega, ?_⟩
    rw [drop_cat, h2]
    congr 1
    simp
    omega
  | t :: l, B, j, ⟨h0, q, h1, h2, h3, h4, h5, h6⟩ => by
    refine ⟨by simp; omega, A.length + 1 + q, by omega, by simp; omega, ?_, ?_, ?_, ?_⟩
    · rw [drop_cat, h3]
      congr 1
      omega
    · rw [drop_cat]
      exact h4
    · rw [tkAt_cat, h5]
    · rw [drop_cat, show A.length + 1 + q + (tokS (B.drop q)).m = A.length + 1 + (q + (tokS (B.drop q)).m) by omega]
      exact ch_shift A z h6
def endAt : Nat → List Tk → Nat
  | i, [] => i
  | _, t :: l => endAt (t.at_ + t.t.length) l
/-- two texts, a blank between them -/
theorem ch_cat {A B : List UInt8} {z : UInt8} (hz : blB z = true) {TB : List Tk} (hB : Ch B 0 TB) : ∀ {TA : List Tk} {i : Nat}, Ch A i TA → (z = 10 ∨ endAt i TA = A.length) → Ch (A ++ z :: B) i (TA ++ TB.map (mvT (A.length + 1) (nlN A + nlC z)))
  | [], i, ⟨h1, h2⟩, he => by
    have hs : skipS ((A ++ z :: B).drop i) = up (A.length - i + 1) (skipS B) := by
      rw [List.drop_append_of_le_length h1]
      rcases he with rfl | he
      · have := skip_nl _ (A.drop i) B (Nat.le_refl _) (by rw [h2]; simp)
        rw [this]
        simp
      · have : i = A.length := he
        subst this
        rw [List.drop_length, List.nil_append, skip_blank hz]
        simp
    have h0 := ch_shift A z hB
    rw [List.nil_append]
    cases TB with
    | nil =>
      obtain ⟨g1, g2⟩ := hB
      refine ⟨by simp; omega, ?_⟩
      rw [List.drop_zero] at g2
      rw [hs, g2]
      simp only [up, List.length_append, List.length_cons]
      congr 1
      omega
    | cons t l =>
      obtain ⟨g0, q, g1, g2, g3, g4, g5, g6⟩ := h0
      have hq : skipS B = (q - (A.length + 1 + 0), true) := by rw [← g3, drop_cat, List.drop_zero]
      refine ⟨by simp; omega, q, by omega, g2, ?_, g4, g5, g6⟩
      rw [hs, hq]
      simp only [up]
      congr 1
      omega
  | t :: l, i, ⟨h0, q, h1, h2, h3, h4, h5, h6⟩, he => by
    have hqd : A.drop q ≠ [] := by
      intro e
      have := congrArg List.length e
      simp at this
      omega
    have hml := (tok_m (A.drop q)).1
    have hml2 := hml
    rw [List.length_drop] at hml2
    have hz0 : (((A.drop q).drop (tokS (A.drop q)).m ++ z :: B).getD 0 0) = (A.drop q).getD (tokS (A.drop q)).m 0 ∨ neu (((A.drop q).drop (tokS (A.drop q)).m ++ z :: B).getD 0 0) := by
      by_cases hlt : (tokS (A.drop q)).m < (A.drop q).length
      · left
        rw [List.drop_eq_getElem_cons hlt]
        simp only [List.cons_append, List.getD_cons_zero]
        rw [List.getD_eq_getElem?_getD, List.getElem?_eq_getElem hlt]
        rfl
      · right
        rw [List.drop_of_length_le (by omega), List.nil_append, List.getD_cons_zero]
        exact .inr hz
    have e1 : (A ++ z :: B).drop q = (A.drop q).take (tokS (A.drop q)).m ++ ((A.drop q).drop (tokS (A.drop q)).m ++ z :: B) := by
      rw [← List.append_assoc, List.take_append_drop, List.drop_append_of_le_length (by omega)]
    have ht : tokS ((A ++ z :: B).drop q) = tokS (A.drop q) := by
      rw [e1]
      exact tok_app h4 hz0
    have hsq : skipS (A.drop q) = (0, true) := by
      have := skip_app (A.drop i).length (A.drop i) ((A.drop i).drop (q - i)) (Nat.le_refl _) (by rw [h3]) (by rw [h3, List.length_drop]; dsimp only; omega)
      rw [h3] at this
      dsimp only at this
      rw [List.take_append_drop, h3, List.drop_drop, show i + (q - i) = q by omega] at this
      exact up_eq this.symm (by omega)
    refine ⟨by simp; omega, q, h1, by simp; omega, ?_, ?_, ?_, ?_⟩
    · have e2 : (A ++ z :: B).drop i = (A.drop i).take (skipS (A.drop i)).1 ++ ((A ++ z :: B).drop q) := by
        rw [h3, List.drop_append_of_le_length (by omega), List.drop_append_of_le_length (by omega), ← List.append_assoc]
        congr 1
        conv => lhs; rw [← List.take_append_drop (q - i) (A.drop i)]
        rw [List.drop_drop, show i + (q - i) = q by omega]
      rw [e2, skip_app (A.drop i).length (A.drop i) _ (Nat.le_refl _) (by rw [h3]) (by rw [h3, List.length_drop]; dsimp only; omega), h3]
      rw [e1, skip_tok hqd hsq h4 hz0]
      rfl
    · rw [ht]
      exact h4
    · rw [h5]
      unfold tkAt
      rw [ht, e1, List.take_append_of_le_length (by simp; omega), List.take_take, Nat.min_self]
      congr 2
      rw [List.take_append_of_le_length (by omega)]
    · rw [ht]
      refine ch_cat hz hB h6 ?_
      rcases he with he | he
      · exact .inl he
      · right
        rw [h5] at he
        simp only [endAt, tkAt] at he
        rw [← he]
        congr 1
        simp
        omega
theorem lex_cat {A B : List UInt8} {z : UInt8} (hz : blB z = true) {TA TB : List Tk} (hA : Ch A 0 TA) (hB : Ch B 0 TB) (he : z = 10 ∨ endAt 0 TA = A.length) : Ch (A ++ z :: B) 0 (TA ++ TB.map (mvT (A.length + 1) (nlN A + nlC z))) := ch_cat hz hB hA he
abbrev lnR (r : List Tk) : Nat := (r.headD tk0).ln
def Ap : List (List Tk) → Prop
  | r :: q :: L => lnR r ≠ lnR q ∧ Ap (q :: L)
  | _ => True
structure RowsA (l : List Tk) (R : List (List Tk)) : Prop where
  all : R.flatten = l
  row : ∀ r ∈ R, r ≠ [] ∧ ∀ t ∈ r, t.ln = lnR r
  ap : Ap R
theorem ap_of : ∀ {R : List (List Tk)}, (∀ Q r q Q', R = Q ++ r :: q :: Q' → lnR r ≠ lnR q) → Ap R
  | [], _ => trivial
  | [_], _ => trivial
  | r :: q :: L, h => ⟨h [] r q L rfl, ap_of fun Q a b Q' e => h (r :: Q) a b Q' (by rw [e]; rfl)⟩
theorem lines_rowsA (T : List Tk) : RowsA T (linesS T) := by
  obtain ⟨h1, h2, h3⟩ := linesS_ok T
  exact ⟨h1, h2, ap_of h3⟩
theorem Ap.tail {r : List Tk} {L : List (List Tk)} (h : Ap (r :: L)) : Ap L := by
  cases L with
  | nil => trivial
  | cons q L => exact h.2
theorem RowsA.tail {r : List Tk} {L : List (List Tk)} {l : List Tk} (h : RowsA l (r :: L)) : RowsA L.flatten L := ⟨rfl, fun q hq => h.row q (List.Mem.tail _ hq), h.ap.tail⟩
/-- the first row is as long as its line -/
theorem pre_eq {p : Tk → Bool} : ∀ {a b x y : List Tk}, a ++ x = b ++ y → (∀ t ∈ a, p t = true) → (∀ t ∈ b, p t = true) → (∀ t ∈ x.head?, p t = false) → (∀ t ∈ y.head?, p t = false) → a = b
  | [], [], _, _, _, _, _, _, _ => rfl
  | [], t :: b, x, y, h, _, hb, hx, _ => by
    rw [List.nil_append] at h
    have := hx t (by rw [h]; rfl)
    rw [hb t (List.Mem.head _)] at this
    cases this
  | t :: a, [], x, y, h, ha, _, _, hy => by
    rw [List.nil_append] at h
    have := hy t (by rw [← h]; rfl)
    rw [ha t (List.Mem.head _)] at this
    cases this
  | t :: a, u :: b, x, y, h, ha, hb, hx, hy => by
    simp only [List.cons_append, List.cons.injEq] at h
    rw [h.1, pre_eq h.2 (fun v hv => ha v (List.Mem.tail _ hv)) (fun v hv => hb v (List.Mem.tail _ hv)) hx hy]
theorem head_row {r : List Tk} {L : List (List Tk)} {l : List Tk} (h : RowsA l (r :: L)) : ∀ t ∈ L.flatten.head?, t.ln ≠ lnR r := by
  intro t ht
  cases L with
  | nil => cases ht
  | cons q L =>
    have hq := (h.row q (List.Mem.tail _ (List.Mem.head _))).1
    cases q with
    | nil => exact absurd rfl hq
    | cons u q =>
      simp only [List.flatten_cons, List.cons_append, List.head?_cons, Option.mem_some_iff] at ht
      subst ht
      exact fun e => h.ap.1 e.symm
theorem rows_uniq : ∀ {R R' : List (List Tk)} {l : List Tk}, RowsA l R → RowsA l R' → R = R'
  | [], [], _, _, _ => rfl
  | [], r :: L, l, h, h' => by
    have h0 := h.all
    have h1 := (h'.row r (List.Mem.head _)).1
    have h2 := h'.all
    rw [← h0] at h2
    simp only [List.flatten_cons, List.flatten_nil, List.append_eq_nil_iff] at h2
    exact absurd h2.1 h1
  | r :: L, [], l, h, h' => by
    have h0 := h'.all
    have h1 := (h.row r (List.Mem.head _)).1
    have h2 := h.all
    rw [← h0] at h2
    simp only [List.flatten_cons, List.flatten_nil, List.append_eq_nil_iff] at h2
    exact absurd h2.1 h1
  | r :: L, r' :: L', l, h, h' => by
    have he : r ++ L.flatten = r' ++ L'.flatten := by
      have h1 := h.all
      have h2 := h'.all
      rw [← h2] at h1
      simpa using h1
    obtain ⟨hr0, hr⟩ := h.row r (List.Mem.head _)
    obtain ⟨hr0', hr'⟩ := h'.row r' (List.Mem.head _)
    have hl : lnR r = lnR r' := by
      cases r with
      | nil => exact absurd rfl hr0
      | cons a r => cases r' with
        | nil => exact absurd rfl hr0'
        | cons b r' =>
          simp only [List.cons_append, List.cons.injEq] at he
          show a.ln = b.ln
          rw [he.1]
    have hrr : r = r' := pre_eq (p := fun t => decide (t.ln = lnR r)) he (fun t ht => decide_eq_true (hr t ht)) (fun t ht => decide_eq_true (by rw [hl]; exact hr' t ht)) (fun t ht => decide_eq_false (head_row h t ht)) (fun t ht => decide_eq_false (by rw [hl]; exact head_row h' t ht))
    subst hrr
    rw [rows_uniq h.tail (by have := List.append_cancel_left he; rw [this]; exact h'.tail)]
theorem lines_eq {T : List Tk} {R : List (List Tk)} (h : RowsA T R) : linesS T = R := rows_uniq (lines_rowsA T) h
theorem Ap.app : ∀ {R1 R2 : List (List Tk)} {n : Nat}, Ap R1 → Ap R2 → (∀ r ∈ R1, lnR r < n) → (∀ r ∈ R2, n ≤ lnR r) → Ap (R1 ++ R2)
  | [], R2, _, _, h2, _, _ => h2
  | [r], [], _, _, _, _, _ => trivial
  | [r], q :: R2, n, _, h2, h3, h4 => ⟨by
      have a := h3 r (List.Mem.head _)
      have b := h4 q (List.Mem.head _)
      omega, h2⟩
  | r :: q :: L, R2, n, h1, h2, h3, h4 => ⟨h1.1, Ap.app h1.2 h2 (fun x hx => h3 x (List.Mem.tail _ hx)) h4⟩
theorem headD_mem {r : List Tk} (h : r ≠ []) : r.headD tk0 ∈ r := by
  cases r with
  | nil => exact absurd rfl h
  | cons a r => exact List.Mem.head _
theorem RowsA.app {l1 l2 : List Tk} {R1 R2 : List (List Tk)} {n : Nat} (h1 : RowsA l1 R1) (h2 : RowsA l2 R2) (h3 : ∀ t ∈ l1, t.ln < n) (h4 : ∀ t ∈ l2, n ≤ t.ln) : RowsA (l1 ++ l2) (R1 ++ R2) := by
  refine ⟨by rw [List.flatten_append, h1.all, h2.all], fun r hr => ?_, h1.ap.app h2.ap (n := n) (fun r hr => ?_) (fun r hr => ?_)⟩
  · rcases List.mem_append.1 hr with hr | hr
    · exact h1.row r hr
    · exact h2.row r hr
  · refine h3 _ ?_
    rw [← h1.all]
    exact List.mem_flatten.2 ⟨r, hr, headD_mem (h1.row r hr).1⟩
  · refine h4 _ ?_
    rw [← h2.all]
    exact List.mem_flatten.2 ⟨r, hr, headD_mem (h2.row r hr).1⟩
theorem lnR_mv {r : List Tk} (h : r ≠ []) (a n : Nat) : lnR (r.map (mvT a n)) = lnR r + n := by
  cases r with
  | nil => exact absurd rfl h
  | cons t r => rfl
theorem Ap.mv (a n : Nat) : ∀ {R : List (List Tk)}, Ap R → (∀ r ∈ R, r ≠ []) → Ap (R.map (List.map (mvT a n)))
  | [], _, _ => trivial
  | [_], _, _ => trivial
  | r :: q :: L, h, h0 => ⟨by
      rw [lnR_mv (h0 r (List.Mem.head _)), lnR_mv (h0 q (List.Mem.tail _ (List.Mem.head _)))]
      have := h.1
      omega, Ap.mv a n h.2 fun x hx => h0 x (List.Mem.tail _ hx)⟩
theorem RowsA.mv {l : List Tk} {R : List (List Tk)} (a n : Nat) (h : RowsA l R) : RowsA (l.map (mvT a n)) (R.map (List.map (mvT a n))) := by
  refine ⟨?_, fun r hr => ?_, h.ap.mv a n fun r hr => (h.row r hr).1⟩
  · rw [← h.all, List.map_flatten]
  · obtain ⟨q, hq, rfl⟩ := List.mem_map.1 hr
    obtain ⟨g1, g2⟩ := h.row q hq
    refine ⟨by simpa using g1, fun t ht => ?_⟩
    obtain ⟨u, hu, rfl⟩ := List.mem_map.1 ht
    rw [lnR_mv g1]
    show u.ln + n = _
    rw [g2 u hu]
theorem lines_cat {T1 T2 : List Tk} {a n : Nat} (h : ∀ t ∈ T1, t.ln < n) : linesS (T1 ++ T2.map (mvT a n)) = linesS T1 ++ (linesS T2).map (List.map (mvT a n)) :=
  lines_eq ((lines_rowsA T1).app ((lines_rowsA T2).mv a n) h (fun t ht => by
    obtain ⟨u, _, rfl⟩ := List.mem_map.1 ht
    exact Nat.le_add_left _ _))
theorem lines_one {T : List Tk} (h0 : T ≠ []) {n : Nat} (h : ∀ t ∈ T, t.ln = n) : linesS T = [T] :=
  lines_eq ⟨by simp, fun r hr => by
    rw [List.mem_singleton] at hr
    subst hr
    exact ⟨h0, fun t ht => (h t ht).trans (h _ (headD_mem h0)).symm⟩, trivial⟩
theorem ch_nl : ∀ {l : List Tk} {s : List UInt8} {i : Nat}, Ch s i l → ∀ t ∈ l, t.ln ≤ nlN s
  | [], _, _, _, t, ht => by cases ht
  | u :: l, s, i, ⟨_, q, h1, h2, h3, h4, h5, h6⟩, t, ht => by
    rcases List.mem_cons.1 ht with rfl | ht
    · rw [h5]
      unfold tkAt nlN
      exact (List.take_sublist q s).count_le 10
    · exact ch_nl h6 t ht
/-- a run over rows, part by part -/
theorem rowsS_app : ∀ (L1 L2 : List (List Tk)) (first : Bool) (s : Ms), rowsS first s (L1 ++ L2) = match rowsS first s L1 with
    | .inl s' => rowsS (first && L1.isEmpty) s' L2
    | .inr e => .inr e
  | [], L2, first, s => by simp [rowsS]
  | r :: L1, L2, first, s => by
    simp only [List.cons_append, rowsS]
    cases rowS first s r with
    | inr e => rfl
    | inl s' =>
      simp only [rowsS_app L1 L2 false s', List.isEmpty_cons, Bool.and_false, Bool.false_and]
def noHash (r : List Tk) : Prop := r ≠ [] ∧ ∀ t ∈ r, t.t ≠ [35]
theorem rowsS_skip {V : Wds} {P : List Pt} (hP : cntB P = false) : ∀ (L : List (List Tk)) (first : Bool) (out : List Tk), (∀ r ∈ L, noHash r) → rowsS first ⟨V, P, out⟩ L = .inl ⟨V, P, out⟩
  | [], _, _, _ => rfl
  | r :: L, first, out, h => by
    rw [rowsS]
    have : rowS first ⟨V, P, out⟩ r = .inl ⟨V, P, out⟩ := by
      obtain ⟨h0, h1⟩ := h r (List.Mem.head _)
      cases r with
      | nil => exact absurd rfl h0
      | cons t r => rw [rowS, if_neg (fun e => h1 t (List.Mem.head _) e.2), if_pos hP]
    rw [this]
    exact rowsS_skip hP L false out fun q hq => h q (List.Mem.tail _ hq)
theorem rowsS_put {V : Wds} {P : List Pt} (hP : cntB P = true) : ∀ (L : List (List Tk)) (first : Bool) (out : List Tk), (∀ r ∈ L, noHash r ∧ ∀ t ∈ r, t.k ≠ 1 ∨ standsB V t.t = false) → out.length + L.flatten.length ≤ 2048 →
    rowsS first ⟨V, P, out⟩ L = .inl ⟨V, P, out ++ L.flatten⟩
  | [], _, out, _, _ => by simp [rowsS]
  | r :: L, first, out, h, hl => by
    obtain ⟨⟨hr0, hrh⟩, hr⟩ := h r (List.Mem.head _)
    simp only [List.flatten_cons, List.length_append] at hl
    rw [rowsS]
    have : rowS first ⟨V, P, out⟩ r = .inl ⟨V, P, out ++ r⟩ := by
      cases r with
      | nil => exact absurd rfl hr0
      | cons t r =>
        rw [rowS, if_neg (fun e => hrh t (List.Mem.head _) e.2), if_neg (by rw [hP]; simp), putS_id _ _ hr (by dsimp only; omega)]
    rw [this]
    dsimp only
    rw [rowsS_put hP L false (out ++ r) (fun q hq => h q (List.Mem.tail _ hq)) (by rw [List.length_append]; omega)]
    simp
abbrev skA (d a b : Nm) : Nm := (((d ++ 10 :: a) ++ 10 :: [35, 101, 108, 115, 101]) ++ 10 :: b) ++ 10 :: [35, 101, 110, 100, 105, 102]
def tIf (d : Nm) : List Tk := [⟨4, [35], 0, 0, 0⟩, ⟨1, d, 0, 1, 0⟩, ⟨1, [78, 79, 66, 79, 68, 89], 0, d.length + 2, 0⟩]
def tElse : List Tk := [⟨4, [35], 0, 0, 0⟩, ⟨1, [101, 108, 115, 101], 0, 1, 0⟩]
def tEnd : List Tk := [⟨4, [35], 0, 0, 0⟩, ⟨1, [101, 110, 100, 105, 102], 0, 1, 0⟩]
theorem ch_of {s : Nm} {T : List Tk} (h : lexS s = (T, 0, 0)) : Ch s 0 T := (ch_of_lexS h).2.1
theorem if_lex : lexS [35, 105, 102, 100, 101, 102, 32, 78, 79, 66, 79, 68, 89] = (tIf [105, 102, 100, 101, 102], 0, 0) := by kernel_rfl
theorem ifn_lex : lexS [35, 105, 102, 110, 100, 101, 102, 32, 78, 79, 66, 79, 68, 89] = (tIf [105, 102, 110, 100, 101, 102], 0, 0) := by kernel_rfl
theorem else_lex : lexS [35, 101, 108, 115, 101] = (tElse, 0, 0) := by kernel_rfl
theorem endif_lex : lexS [35, 101, 110, 100, 105, 102] = (tEnd, 0, 0) := by kernel_rfl
abbrev V0 : Wds := [(nES, [numT 1])]
theorem plB_of {s : Nm} (h : plB s = true) : ∃ T, lexS s = (T, 0, 0) ∧ s.length ≤ 8192 ∧ Ch s 0 T ∧ T.length ≤ 2048 ∧ ∀ t ∈ T, plT t = true := by
  unfold plB at h
  simp only [Bool.and_eq_true, decide_eq_true_eq, List.all_eq_true] at h
  obtain ⟨h1, h2⟩ := h
  obtain ⟨⟨T, e, p⟩, hR⟩ : ∃ R, lexS s = R := ⟨_, rfl⟩
  rw [hR] at h1 h2
  dsimp only at h1 h2
  subst h2
  obtain ⟨hsl, hch, hTl⟩ := ch_of_lexS hR
  exact ⟨T, lexS_of_ch hsl hch hTl, hsl, hch, hTl, h1⟩
theorem rows_pl {T : List Tk} (h : ∀ t ∈ T, plT t = true) (a n : Nat) : ∀ r ∈ (linesS T).map (List.map (mvT a n)), noHash r ∧ ∀ t ∈ r, t.k ≠ 1 ∨ standsB V0 t.t = false := fun r hr => by
  obtain ⟨q, hq, rfl⟩ := List.mem_map.1 hr
  have hR := lines_rowsA T
  have hT : ∀ t ∈ q, t ∈ T := fun t ht => by
    rw [← hR.all]
    exact List.mem_flatten.2 ⟨q, hq, ht⟩
  refine ⟨⟨by simpa using (hR.row q hq).1, fun t ht => ?_⟩, fun t ht => ?_⟩
  · obtain ⟨u, hu, rfl⟩ := List.mem_map.1 ht
    exact (plT_iff.1 (h u (hT u hu))).1
  · obtain ⟨u, hu, rfl⟩ := List.mem_map.1 ht
    exact .inr (stands_pl (t := u) rfl (h u (hT u hu)))
theorem flat_mv (T : List Tk) (a n : Nat) : ((linesS T).map (List.map (mvT a n))).flatten = T.map (mvT a n) := by
  rw [← List.map_flatten, (lines_rowsA T).all]
theorem lines_cat1 {T1 T2 : List Tk} {a n : Nat} (h : ∀ t ∈ T1, t.ln < n) (h0 : T2 ≠ []) (h1 : ∀ t ∈ T2, t.ln = 0) : linesS (T1 ++ T2.map (mvT a n)) = linesS T1 ++ [T2.map (mvT a n)] := by
  rw [lines_cat h, lines_one h0 h1]
  rfl
set_option maxHeartbeats 1000000 in
/-- the tokens of the five parts, one behind another -/
theorem sk_lex {d a b : Nm} {TI TA TB : List Tk} (hI : Ch d 0 TI) (hA : Ch a 0 TA) (hB : Ch b 0 TB) (hl : d.length + a.length + b.length ≤ 8000) (ht : TI.length + TA.length + TB.length ≤ 2044) (hI0 : TI ≠ []) (hI1 : ∀ t ∈ TI, t.ln = 0) :
    ∃ a1 n1 a2 n2 a3 n3 a4 n4, lexS (skA d a b) = (TI ++ TA.map (mvT a1 n1) ++ tElse.map (mvT a2 n2) ++ TB.map (mvT a3 n3) ++ tEnd.map (mvT a4 n4), 0, 0) ∧
      linesS (TI ++ TA.map (mvT a1 n1) ++ tElse.map (mvT a2 n2) ++ TB.map (mvT a3 n3) ++ tEnd.map (mvT a4 n4)) = [TI] ++ (linesS TA).map (List.map (mvT a1 n1)) ++ [tElse.map (mvT a2 n2)] ++ (linesS TB).map (List.map (mvT a3 n3)) ++ [tEnd.map (mvT a4 n4)] := by
  have c1 := lex_cat (z := 10) (by decide) hI hA (.inl rfl)
  have c2 := lex_cat (z := 10) (by decide) c1 (ch_of else_lex) (.inl rfl)
  have c3 := lex_cat (z := 10) (by decide) c2 hB (.inl rfl)
  have c4 := lex_cat (z := 10) (by decide) c3 (ch_of endif_lex) (.inl rfl)
  have e10 : nlC 10 = 1 := by decide
  rw [e10] at c1 c2 c3 c4
  refine ⟨_, _, _, _, _, _, _, _, lexS_of_ch (by simp; omega) c4 (by simp [tElse, tEnd]; omega), ?_⟩
  rw [lines_cat1 (fun t h => by have := ch_nl c3 t h; omega) (by simp [tEnd]) (by decide),
    lines_cat (fun t h => by have := ch_nl c2 t h; omega),
    lines_cat1 (fun t h => by have := ch_nl c1 t h; omega) (by simp [tElse]) (by decide),
    lines_cat (fun t h => by have := ch_nl hI t h; omega), lines_one hI0 hI1]
theorem dir_if : dirS V0 [] true [⟨1, [105, 102, 100, 101, 102], 0, 1, 0⟩, ⟨1, [78, 79, 66, 79, 68, 89], 0, 7, 0⟩] = some (V0, [⟨false, false, true⟩]) := by rfl
theorem dir_ifn : dirS V0 [] true [⟨1, [105, 102, 110, 100, 101, 102], 0, 1, 0⟩, ⟨1, [78, 79, 66, 79, 68, 89], 0, 8, 0⟩] = some (V0, [⟨false, true, false⟩]) := by rfl
/-- a text in the half that does not count -/
theorem skip_first {a b : Nm} (ha : plB a = true) (hb : plB b = true) (hl : a.length + b.length ≤ 4000) (ht : (lexS a).1.length + (lexS b).1.length ≤ 2028) :
    ∃ x n, preS (skA [35, 105, 102, 100, 101, 102, 32, 78, 79, 66, 79, 68, 89] a b) = ((lexS b).1.map (mvT x n), 0, 0) := by
  obtain ⟨TA, h1, h2, h3, h4, h5⟩ := plB_of ha
  obtain ⟨TB, g1, g2, g3, g4, g5⟩ := plB_of hb
  rw [h1, g1] at ht
  rw [g1]
  dsimp only at ht ⊢
  obtain ⟨a1, n1, a2, n2, a3, n3, a4, n4, k1, k2⟩ := sk_lex (ch_of if_lex) h3 g3 (by simp; omega) (by simp [tIf]; omega) (by simp [tIf]) (by decide)
  refine ⟨a3, n3, ?_⟩
  unfold preS
  rw [k1, if_neg (by simp)]
  dsimp only
  rw [k2, rowsS_app, rowsS_app, rowsS_app, rowsS_app]
  have r1 : rowsS true ⟨V0, [], []⟩ [tIf [105, 102, 100, 101, 102]] = .inl ⟨V0, [⟨false, false, true⟩], []⟩ := by rfl
  rw [r1]
  dsimp only
  rw [rowsS_skip (by rfl) _ _ _ fun r hr => (rows_pl h5 a1 n1 r hr).1]
  dsimp only
  have r2 : ∀ f, rowsS f ⟨V0, [⟨false, false, true⟩], []⟩ [tElse.map (mvT a2 n2)] = .inl ⟨V0, [⟨true, true, false⟩], []⟩ := fun f => by rfl
  rw [r2]
  dsimp only
  rw [rowsS_put (by rfl) _ _ _ (rows_pl g5 a3 n3) (by rw [flat_mv]; simp; omega), flat_mv]
  dsimp only
  have r3 : ∀ f o, rowsS f ⟨V0, [⟨true, true, false⟩], o⟩ [tEnd.map (mvT a4 n4)] = .inl ⟨V0, [], o⟩ := fun f o => by rfl
  rw [r3]
  rfl
theorem skip_second {a b : Nm} (ha : plB a = true) (hb : plB b = true) (hl : a.length + b.length ≤ 4000) (ht : (lexS a).1.length + (lexS b).1.length ≤ 2028) :
    ∃ x n, preS (skA [35, 105, 102, 110, 100, 101, 102, 32, 78, 79, 66, 79, 68, 89] b a) = ((lexS b).1.map (mvT x n), 0, 0) := by
  obtain ⟨TA, h1, h2, h3, h4, h5⟩ := plB_of ha
  obtain ⟨TB, g1, g2, g3, g4, g5⟩ := plB_of hb
  rw [h1, g1] at ht
  rw [g1]
  dsimp only at ht ⊢
  obtain ⟨a1, n1, a2, n2, a3, n3, a4, n4, k1, k2⟩ := sk_lex (ch_of ifn_lex) g3 h3 (by simp; omega) (by simp [tIf]; omega) (by simp [tIf]) (by decide)
  refine ⟨a1, n1, ?_⟩
  unfold preS
  rw [k1, if_neg (by simp)]
  dsimp only
  rw [k2, rowsS_app, rowsS_app, rowsS_app, rowsS_app]
  have r1 : rowsS true ⟨V0, [], []⟩ [tIf [105, 102, 110, 100, 101, 102]] = .inl ⟨V0, [⟨false, true, false⟩], []⟩ := by rfl
  rw [r1]
  dsimp only
  rw [rowsS_put (by rfl) _ _ _ (rows_pl g5 a1 n1) (by rw [flat_mv]; simp; omega), flat_mv]
  dsimp only
  have r2 : ∀ f o, rowsS f ⟨V0, [⟨false, true, false⟩], o⟩ [tElse.map (mvT a2 n2)] = .inl ⟨V0, [⟨true, false, false⟩], o⟩ := fun f o => by rfl
  rw [r2]
  dsimp only
  rw [rowsS_skip (by rfl) _ _ _ fun r hr => (rows_pl h5 a3 n3 r hr).1]
  dsimp only
  have r3 : ∀ f o, rowsS f ⟨V0, [⟨true, false, false⟩], o⟩ [tEnd.map (mvT a4 n4)] = .inl ⟨V0, [], o⟩ := fun f o => by rfl
  rw [r3]
  rfl
def frB (x : Nm) : Bool := decide ((lexS x).2.1 = 0) && (match (lexS x).1 with
  | [t] => decide (t.k = 1) && decide (t.t = x) && !keptB x
  | _ => false)
theorem run_mem {p : UInt8 → Bool} : ∀ {l : List UInt8}, runN p l = l.length → ∀ b ∈ l, p b = true
  | [], _, b, hb => by cases hb
  | c :: l, h, b, hb => by
    simp only [runN] at h
    split at h
    · rename_i hc
      simp only [List.length_cons] at h
      rcases List.mem_cons.1 hb with rfl | hb
      · exact hc
      · exact run_mem (by omega) b hb
    · simp at h
theorem word_of {x : Nm} {t : Tk} {p : Nat} (h : lexS x = ([t], 0, p)) (hk : t.k = 1) (ht : t.t = x) : Ch x 0 [t] ∧ t.at_ = 0 ∧ t.ln = 0 ∧ x.length ≤ 32 ∧ x ≠ [] ∧ nlN x = 0 ∧ t.x = 0 := by
  obtain ⟨hsl, hch, _⟩ := ch_of_lexS h
  have hch0 := hch
  obtain ⟨h0, q, h1, h2, h3, h4, h5, h6⟩ := hch
  have hx0 : x ≠ [] := by rintro rfl; simp at h2
  have hq : q = 0 := by
    have := congrArg List.length ht
    rw [h5] at this
    simp only [tkAt, List.length_take, List.length_drop] at this
    omega
  subst hq
  rw [List.drop_zero] at h4
  have hat : t.at_ = 0 := by rw [h5]; rfl
  have hln : t.ln = 0 := by rw [h5]; simp [tkAt, nlN]
  have hkk : (tokS x).k = 1 := by
    rw [h5] at hk
    simpa [tkAt] using hk
  have hmm : (tokS x).m = x.length := by
    have := congrArg List.length ht
    rw [h5] at this
    have hm := (tok_m x).1
    simp only [tkAt, List.length_take, List.drop_zero] at this
    omega
  have hwx : runN woB x = x.length ∧ x.length ≤ 32 ∧ (tokS x).x = 0 := by
    unfold tokS at hkk hmm h4 ⊢
    by_cases hle : leB (x.getD 0 0) = true
    · rw [if_pos hle] at hkk hmm h4 ⊢
      by_cases hbig : 32 < runN woB x
      · rw [if_pos hbig] at h4
        cases h4
      · rw [if_neg hbig] at hkk hmm ⊢
        dsimp only at hmm ⊢
        exact ⟨hmm, by omega, rfl⟩
    · rw [if_neg hle] at hkk
      exfalso
      split at hkk
      · unfold numS at hkk
        repeat' split at hkk
        all_goals (dsimp only at hkk; omega)
      · split at hkk
        all_goals (dsimp only at hkk; omega)
  refine ⟨hch0, hat, hln, hwx.2.1, hx0, ?_, ?_⟩
  · unfold nlN
    rw [List.count_eq_zero]
    intro h10
    have := run_mem hwx.1 10 h10
    revert this
    decide
  · rw [h5]
    simp only [tkAt, List.drop_zero]
    exact hwx.2.2
def tDef : List Tk := [⟨4, [35], 0, 0, 0⟩, ⟨1, [100, 101, 102, 105, 110, 101], 0, 1, 0⟩]
theorem def_lex : lexS [35, 100, 101, 102, 105, 110, 101] = (tDef, 0, 0) := by kernel_rfl
theorem sev_lex : lexS [55] = ([⟨2, [55], 458752, 0, 0⟩], 0, 0) := by kernel_rfl
theorem not_kept {x : Nm} (h : keptB x = false) : x ≠ nLINE ∧ x ≠ nVER ∧ x ≠ nES := by
  refine ⟨?_, ?_, ?_⟩ <;> (rintro rfl; revert h; decide)
theorem endAt_snoc : ∀ (l : List Tk) (i : Nat) (t : Tk), endAt i (l ++ [t]) = t.at_ + t.t.length
  | [], _, _ => rfl
  | u :: l, _, t => endAt_snoc l _ t
theorem fresh_run {x : Nm} (h : frB x = true) : x.length ≤ 32 ∧ ∃ u, preS ((([35, 100, 101, 102, 105, 110, 101] ++ 32 :: x) ++ 32 :: [55]) ++ 10 :: x) = ([u], 0, 0) ∧ u.t = [55] := by
  unfold frB at h
  obtain ⟨⟨T, e, p⟩, hR⟩ : ∃ R, lexS x = R := ⟨_, rfl⟩
  rw [hR] at h
  simp only [Bool.and_eq_true, decide_eq_true_eq] at h
  obtain ⟨he, h⟩ := h
  subst he
  split at h
  case h_2 => cases h
  rename_i t
  simp only [Bool.and_eq_true, decide_eq_true_eq, Bool.not_eq_true'] at h
  obtain ⟨⟨hk, ht⟩, hkp⟩ := h
  obtain ⟨w1, w2, w3, w4, w5, w6, w7⟩ := word_of hR hk ht
  obtain ⟨n1, n2, n3⟩ := not_kept hkp
  have e32 : nlC 32 = 0 := by decide
  have e10 : nlC 10 = 1 := by decide
  have nd : nlN [35, 100, 101, 102, 105, 110, 101] = 0 := by decide
  have c1 := lex_cat (z := 32) (by decide) (ch_of def_lex) w1 (.inr (by decide))
  have c2 := lex_cat (z := 32) (by decide) c1 (ch_of sev_lex) (.inr (by
    rw [List.map_cons, List.map_nil, endAt_snoc]
    simp only [mvT, w2, ht, List.length_append, List.length_cons, List.length_nil]
    omega))
  have c3 := lex_cat (z := 10) (by decide) c2 w1 (.inl rfl)
  have nd2 : nlN ([35, 100, 101, 102, 105, 110, 101] ++ 32 :: x) = 0 := by
    unfold nlN at w6 nd ⊢
    rw [List.count_append, nd, List.count_cons, w6]
    decide
  rw [e32, nd] at c1
  rw [e32, nd, nd2] at c2
  rw [e32, nd, nd2, e10] at c3
  obtain ⟨a3, ha3⟩ : ∃ a, (([35, 100, 101, 102, 105, 110, 101] ++ 32 :: x) ++ 32 :: [55]).length + 1 = a := ⟨_, rfl⟩
  obtain ⟨n3', hn3⟩ : ∃ n, nlN (([35, 100, 101, 102, 105, 110, 101] ++ 32 :: x) ++ 32 :: [55]) = n := ⟨_, rfl⟩
  rw [ha3, hn3] at c3
  have hlx := lexS_of_ch (by simp; omega) c3 (by simp [tDef])
  refine ⟨w4, stay ⟨2, [55], 458752, ([35, 100, 101, 102, 105, 110, 101] ++ 32 :: x).length + 1, 0⟩ (t.at_ + a3) (t.ln + (n3' + 1)), ?_, rfl⟩
  unfold preS
  rw [hlx, if_neg (by simp)]
  dsimp only
  have hrows : linesS (tDef ++ [t].map (mvT (([35, 100, 101, 102, 105, 110, 101] : Nm).length + 1) (0 + 0)) ++ [⟨2, [55], 458752, 0, 0⟩].map (mvT (([35, 100, 101, 102, 105, 110, 101] ++ 32 :: x).length + 1) (0 + 0)) ++ [t].map (mvT a3 (n3' + 1))) =
      [tDef ++ [t].map (mvT (([35, 100, 101, 102, 105, 110, 101] : Nm).length + 1) (0 + 0)) ++ [⟨2, [55], 458752, 0, 0⟩].map (mvT (([35, 100, 101, 102, 105, 110, 101] ++ 32 :: x).length + 1) (0 + 0))] ++ [[t].map (mvT a3 (n3' + 1))] := by
    rw [lines_cat1 (fun u hu => by have := ch_nl c2 u hu; omega) (by simp) (by simp [w3]), lines_one (by simp [tDef]) (n := 0)]
    intro u hu
    simp [tDef, mvT] at hu
    rcases hu with rfl | rfl | rfl | rfl <;> first | rfl | exact w3
  rw [hrows, rowsS_app]
  have s0 : standsB V0 x = false := by
    unfold standsB
    simp only [wget]
    rw [if_neg (fun e => n3 e.symm)]
    simp [n1, n2]
  obtain ⟨tk, tt, tx, ta, tn⟩ := t
  dsimp only at hk ht w2 w3 w7
  subst hk ht
  have r1 : rowsS true ⟨V0, [], []⟩ [tDef ++ [⟨1, tt, tx, ta, tn⟩].map (mvT (([35, 100, 101, 102, 105, 110, 101] : Nm).length + 1) (0 + 0)) ++ [⟨2, [55], 458752, 0, 0⟩].map (mvT (([35, 100, 101, 102, 105, 110, 101] ++ 32 :: tt).length + 1) (0 + 0))] = .inl ⟨(tt, [mvT (([35, 100, 101, 102, 105, 110, 101] ++ 32 :: tt).length + 1) (0 + 0) ⟨2, [55], 458752, 0, 0⟩]) :: V0, [], []⟩ := by
    simp [rowsS, rowS, tDef, mvT, dirS, cntB, hkp, s0]
  rw [r1]
  dsimp only
  have hst : standsB ((tt, [mvT (([35, 100, 101, 102, 105, 110, 101] ++ 32 :: tt).length + 1) (0 + 0) ⟨2, [55], 458752, 0, 0⟩]) :: V0) tt = true := by
    unfold standsB
    simp [wget]
  have hex : expS ((tt, [mvT (([35, 100, 101, 102, 105, 110, 101] ++ 32 :: tt).length + 1) (0 + 0) ⟨2, [55], 458752, 0, 0⟩]) :: V0) (mvT a3 (n3' + 1) ⟨1, tt, tx, ta, tn⟩) = some [stay ⟨2, [55], 458752, ([35, 100, 101, 102, 105, 110, 101] ++ 32 :: tt).length + 1, 0⟩ (ta + a3) (tn + (n3' + 1))] := by
    unfold expS
    have hns : ¬((mvT a3 (n3' + 1) ⟨1, tt, tx, ta, tn⟩).k ≠ 1 ∨ ([] : List Nm).contains (mvT a3 (n3' + 1) ⟨1, tt, tx, ta, tn⟩).t = true ∨ standsB ((tt, [mvT (([35, 100, 101, 102, 105, 110, 101] ++ 32 :: tt).length + 1) (0 + 0) ⟨2, [55], 458752, 0, 0⟩]) :: V0) (mvT a3 (n3' + 1) ⟨1, tt, tx, ta, tn⟩).t = false) := by
      simp only [mvT] at hst ⊢
      rw [hst]
      simp
    rw [expF_body hns (by omega)]
    have hb : bodyW ((tt, [mvT (([35, 100, 101, 102, 105, 110, 101] ++ 32 :: tt).length + 1) (0 + 0) ⟨2, [55], 458752, 0, 0⟩]) :: V0) (mvT a3 (n3' + 1) ⟨1, tt, tx, ta, tn⟩).t (mvT a3 (n3' + 1) ⟨1, tt, tx, ta, tn⟩).ln = [mvT (([35, 100, 101, 102, 105, 110, 101] ++ 32 :: tt).length + 1) (0 + 0) ⟨2, [55], 458752, 0, 0⟩] := by
      unfold bodyW
      have g1 : ¬(mvT a3 (n3' + 1) ⟨1, tt, tx, ta, tn⟩).t = nLINE := n1
      have g2 : ¬(mvT a3 (n3' + 1) ⟨1, tt, tx, ta, tn⟩).t = nVER := n2
      rw [if_neg g1, if_neg g2]
      simp [wget, mvT]
    rw [hb, runL_one, expF_stay (.inl (by simp [mvT]))]
    rfl
  have r2 : ∀ f, rowsS f ⟨(tt, [mvT (([35, 100, 101, 102, 105, 110, 101] ++ 32 :: tt).length + 1) (0 + 0) ⟨2, [55], 458752, 0, 0⟩]) :: V0, [], []⟩ [[(⟨1, tt, tx, ta, tn⟩ : Tk)].map (mvT a3 (n3' + 1))] = .inl ⟨(tt, [mvT (([35, 100, 101, 102, 105, 110, 101] ++ 32 :: tt).length + 1) (0 + 0) ⟨2, [55], 458752, 0, 0⟩]) :: V0, [], [stay ⟨2, [55], 458752, ([35, 100, 101, 102, 105, 110, 101] ++ 32 :: tt).length + 1, 0⟩ (ta + a3) (tn + (n3' + 1))]⟩ := fun f => by
    rw [List.map_cons, List.map_nil, rowsS, rowS, if_neg (by simp [mvT]), if_neg (by simp [cntB]), putS, hex]
    simp [putS, rowsS]
  rw [r2]
  rfl
def nNAME : Nm := [78, 65, 77, 69]
def nm : Nat → Nm
  | 0 => []
  | k + 1 => nm k ++ 32 :: nNAME
def nmT : Nat → List Tk
  | 0 => []
  | k + 1 => nmT k ++ [mvT (5 * k + 1) 0 ⟨1, nNAME, 0, 0, 0⟩]
theorem nm_len : ∀ k, (nm k).length = 5 * k
  | 0 => rfl
  | k + 1 => by simp [nm, nm_len k, nNAME]; omega
theorem nm_nl : ∀ k, nlN (nm k) = 0
  | 0 => rfl
  | k + 1 => by
    have := nm_nl k
    unfold nlN at this ⊢
    simp only [nm, List.count_append, this]
    decide
theorem nmT_len : ∀ k, (nmT k).length = k
  | 0 => rfl
  | k + 1 => by simp [nmT, nmT_len k]
theorem nmT_all : ∀ k, ∀ t ∈ nmT k, t.k = 1 ∧ t.t = nNAME
  | 0, t, h => by cases h
  | k + 1, t, h => by
    rcases List.mem_append.1 h with h | h
    · exact nmT_all k t h
    · rw [List.mem_singleton] at h
      rw [h]
      exact ⟨rfl, rfl⟩
theorem name_lex : lexS nNAME = ([⟨1, nNAME, 0, 0, 0⟩], 0, 0) := by kernel_rfl
theorem nm_end : ∀ k, endAt 0 (nmT k) = (nm k).length
  | 0 => rfl
  | k + 1 => by
    rw [nmT, endAt_snoc, nm_len]
    simp [mvT, nNAME]
    omega
theorem nm_ch : ∀ k, Ch (nm k) 0 (nmT k)
  | 0 => ⟨Nat.le_refl _, skip_nil⟩
  | k + 1 => by
    have h := lex_cat (z := 32) (by decide) (nm_ch k) (ch_of name_lex) (.inr (nm_end k))
    rw [nm_nl, nm_len, show (0 : Nat) + nlC 32 = 0 by decide] at h
    exact h
def tDN : List Tk := [⟨4, [35], 0, 0, 0⟩, ⟨1, [100, 101, 102, 105, 110, 101], 0, 1, 0⟩, ⟨1, nNAME, 0, 8, 0⟩]
theorem dn_lex : lexS [35, 100, 101, 102, 105, 110, 101, 32, 78, 65, 77, 69] = (tDN, 0, 0) := by kernel_rfl
theorem runL_stay {V : Wds} {a n f d : Nat} {wi : List Nm} : ∀ (l : List Tk), (∀ t ∈ l, t.k ≠ 1 ∨ wi.contains t.t = true ∨ standsB V t.t = false) → runL (expF V a n (f + 1) wi) d l = some (l.map fun u => stay u a n, d)
  | [], _ => rfl
  | t :: l, h => by
    rw [runL, expF_stay (h t (List.Mem.head _))]
    dsimp only
    rw [runL_stay l fun u hu => h u (List.Mem.tail _ hu)]
    rfl
theorem putS_names {V : Wds} {B : List Tk} : ∀ (l out : List Tk), (∀ t ∈ l, expS V t = some (B.map fun u => stay u t.at_ t.ln)) → out.length + l.length * B.length ≤ 2048 → putS V out l = .inl (out ++ l.flatMap fun t => B.map fun u => stay u t.at_ t.ln)
  | [], out, _, _ => by simp [putS]
  | t :: l, out, h, hl => by
    rw [List.length_cons, Nat.succ_mul] at hl
    rw [putS, h t (List.Mem.head _)]
    dsimp only
    rw [if_neg (by rw [List.length_map]; omega), putS_names l _ (fun u hu => h u (List.Mem.tail _ hu)) (by rw [List.length_append, List.length_map]; omega)]
    simp
theorem rowsS_names {V : Wds} {B : List Tk} : ∀ (L : List (List Tk)) (first : Bool) (out : List Tk), (∀ r ∈ L, r ≠ [] ∧ ∀ t ∈ r, t.k = 1 ∧ expS V t = some (B.map fun u => stay u t.at_ t.ln)) → out.length + L.flatten.length * B.length ≤ 2048 →
    rowsS first ⟨V, [], out⟩ L = .inl ⟨V, [], out ++ L.flatten.flatMap fun t => B.map fun u => stay u t.at_ t.ln⟩
  | [], _, out, _, _ => by simp [rowsS]
  | r :: L, first, out, h, hl => by
    obtain ⟨hr0, hr⟩ := h r (List.Mem.head _)
    rw [List.flatten_cons, List.length_append, Nat.add_mul] at hl
    have hp := putS_names (V := V) (B := B) r out (fun t ht => (hr t ht).2) (by omega)
    have hlen : (r.flatMap fun t => B.map fun u => stay u t.at_ t.ln).length = r.length * B.length := by
      clear hp hr hr0 hl h
      induction r with
      | nil => simp
      | cons t r ih => rw [List.flatMap_cons, List.length_append, ih, List.length_map, List.length_cons, Nat.succ_mul]; omega
    rw [rowsS]
    have : rowS first ⟨V, [], out⟩ r = .inl ⟨V, [], out ++ r.flatMap fun t => B.map fun u => stay u t.at_ t.ln⟩ := by
      cases r with
      | nil => exact absurd rfl hr0
      | cons t r =>
        rw [rowS, if_neg (fun e => by have := (hr t (List.Mem.head _)).1; rw [e.1] at this; cases this), if_neg (by simp [cntB]), hp]
    rw [this]
    dsimp only
    rw [rowsS_names L false _ (fun q hq => h q (List.Mem.tail _ hq)) (by rw [List.length_append, hlen]; omega)]
    simp
abbrev kt (u : Tk) : Int × Nm := (u.k, u.t)
theorem names_kt (B : List Tk) : ∀ l : List Tk, (l.flatMap fun t => B.map fun u => stay u t.at_ t.ln).map kt = (List.replicate l.length (B.map kt)).flatten
  | [] => rfl
  | t :: l => by
    rw [List.flatMap_cons, List.map_append, names_kt B l, List.map_map, List.length_cons, List.replicate_succ, List.flatten_cons]
    rfl
theorem names_run {body : Nm} {TB : List Tk} {p k : Nat} (h : lexS body = (TB, 0, p)) (hp : plB body = true) (hb : body.length ≤ 400) (hl : TB.length ≤ 20) (ht : ∀ t ∈ TB, t.t ≠ nNAME ∧ t.ln = 0) (hk : k ≤ 20) :
    ∃ O, preS (([35, 100, 101, 102, 105, 110, 101, 32, 78, 65, 77, 69] ++ 32 :: body) ++ 10 :: nm k) = (O, 0, 0) ∧ O.map kt = (List.replicate k (TB.map kt)).flatten := by
  obtain ⟨T, h1, h2, h3, h4, h5⟩ := plB_of hp
  rw [h] at h1
  simp only [Prod.mk.injEq] at h1
  obtain ⟨rfl, _, _⟩ := h1
  have c1 := lex_cat (z := 32) (by decide) (ch_of dn_lex) h3 (.inr (by decide))
  rw [show nlN [35, 100, 101, 102, 105, 110, 101, 32, 78, 65, 77, 69] + nlC 32 = 0 by decide] at c1
  have c2 := lex_cat (z := 10) (by decide) c1 (nm_ch k) (.inl rfl)
  obtain ⟨n2, hn2⟩ : ∃ n, nlN ([35, 100, 101, 102, 105, 110, 101, 32, 78, 65, 77, 69] ++ 32 :: body) = n := ⟨_, rfl⟩
  obtain ⟨a2, ha2⟩ : ∃ a, ([35, 100, 101, 102, 105, 110, 101, 32, 78, 65, 77, 69] ++ 32 :: body).length + 1 = a := ⟨_, rfl⟩
  obtain ⟨a1, ha1⟩ : ∃ a, ([35, 100, 101, 102, 105, 110, 101, 32, 78, 65, 77, 69] : Nm).length + 1 = a := ⟨_, rfl⟩
  have hnl : ∀ t ∈ tDN ++ TB.map (mvT a1 0), t.ln ≤ n2 := fun t ht => by
    rw [← hn2]
    rw [← ha1] at ht
    exact ch_nl c1 t ht
  rw [hn2, ha2, ha1, show nlC 10 = 1 by decide] at c2
  have hlx := lexS_of_ch (by simp [nm_len]; omega) c2 (by simp [tDN, nmT_len]; omega)
  refine ⟨(((nmT k).map (mvT a2 (n2 + 1))).flatMap fun t => (TB.map (mvT a1 0)).map fun u => stay u t.at_ t.ln), ?_, ?_⟩
  · unfold preS
    rw [hlx, if_neg (by simp)]
    dsimp only
    rw [lines_cat (fun t ht => Nat.lt_succ_of_le (hnl t ht)), lines_one (T := tDN ++ TB.map (mvT a1 0)) (by simp [tDN]) (n := 0) (fun t hu => by
      rcases List.mem_append.1 hu with hu | hu
      · simp only [tDN, List.mem_cons, List.not_mem_nil, or_false] at hu
        rcases hu with rfl | rfl | rfl <;> rfl
      · obtain ⟨v, hv, rfl⟩ := List.mem_map.1 hu
        simp only [mvT, (ht v hv).2]), rowsS_app]
    have r1 : rowsS true ⟨V0, [], []⟩ [tDN ++ TB.map (mvT a1 0)] = .inl ⟨(nNAME, TB.map (mvT a1 0)) :: V0, [], []⟩ := by rfl
    rw [r1]
    dsimp only
    have hex : ∀ t : Tk, t.k = 1 → t.t = nNAME → expS ((nNAME, TB.map (mvT a1 0)) :: V0) t = some ((TB.map (mvT a1 0)).map fun u => stay u t.at_ t.ln) := fun t hk ht' => by
      have hst : standsB ((nNAME, TB.map (mvT a1 0)) :: V0) t.t = true := by
        rw [ht']
        unfold standsB
        simp [wget]
      unfold expS
      rw [expF_body (by rw [hst]; simp [hk]) (by omega)]
      have hbw : bodyW ((nNAME, TB.map (mvT a1 0)) :: V0) t.t t.ln = TB.map (mvT a1 0) := by
        rw [ht']
        unfold bodyW
        rw [if_neg (by decide), if_neg (by decide)]
        simp [wget]
      rw [hbw, runL_stay]
      · rfl
      · intro u hu
        obtain ⟨v, hv, rfl⟩ := List.mem_map.1 hu
        refine .inr (.inr ?_)
        have hvp := plT_iff.1 (h5 v hv)
        unfold standsB
        simp only [wget, mvT]
        have g1 : ¬nNAME = v.t := fun e => (ht v hv).1 e.symm
        have g2 : ¬nES = v.t := fun e => hvp.2.1 e.symm
        simp [g1, g2, hvp.2.2.1, hvp.2.2.2]
    rw [rowsS_names (B := TB.map (mvT a1 0)) _ _ _ (fun r hr => ?_) ?_, flat_mv]
    · rfl
    · rw [flat_mv]
      simp only [List.length_map, nmT_len, List.length_nil]
      have : k * TB.length ≤ 20 * 20 := Nat.mul_le_mul hk hl
      omega
    · obtain ⟨q, hq, rfl⟩ := List.mem_map.1 hr
      have hR := lines_rowsA (nmT k)
      refine ⟨by simpa using (hR.row q hq).1, fun t ht => ?_⟩
      obtain ⟨u, hu, rfl⟩ := List.mem_map.1 ht
      have huT : u ∈ nmT k := by
        rw [← hR.all]
        exact List.mem_flatten.2 ⟨q, hq, hu⟩
      obtain ⟨g1, g2⟩ := nmT_all k u huT
      exact ⟨g1, hex _ g1 g2⟩
  · rw [names_kt, List.length_map, nmT_len, List.map_map]
    rfl
theorem rep_get {α : Type} {L : List α} : ∀ (k i : Nat), i < k * L.length → (List.replicate k L).flatten[i]? = L[i % L.length]?
  | 0, i, h => by simp at h
  | k + 1, i, h => by
    rw [List.replicate_succ, List.flatten_cons]
    by_cases hi : i < L.length
    · rw [List.getElem?_append_left hi, Nat.mod_eq_of_lt hi]
    · rw [List.getElem?_append_right (by omega), rep_get k (i - L.length) (by rw [Nat.succ_mul] at h; omega)]
      congr 1
      conv => rhs; rw [show i = (i - L.length) + L.length by omega]
      rw [Nat.add_mod_right]
end Go.Proofs.YthhfandandfeeaaDoor
