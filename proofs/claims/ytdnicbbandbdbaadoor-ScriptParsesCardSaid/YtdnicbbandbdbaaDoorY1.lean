/- Texts of scripts as the document reads them: plain laws for the walks. No condition. -/
import Derived.Test.YtdnicbbandbdbaaDoorQ6
namespace Go.Proofs.YtdnicbbandbdbaaDoor
theorem ln_long {s : Sn} {l : List UInt8} (h : 60000 < l.length) : lnS s l = none := by
  unfold lnS
  cases s.wh with
  | none =>
    dsimp only
    cases hc : canP l with
    | none => rfl
    | some p =>
      obtain ⟨a, b⟩ := p
      have h1 := canP_iff.1 hc
      have := canS_len h1.1.1 h1.1.2
      rw [h1.2] at h
      omega
  | some p =>
    dsimp only
    split
    · rfl
    · cases hc : callS l with
      | none => rfl
      | some x =>
        have h1 := call_iff.1 hc
        have := lineS_len h1.1
        rw [h1.2] at h
        omega
theorem parts_eq (cur : List UInt8) (c : UInt8) (t : List UInt8) : partsG cur (c :: t) = if c = 32 ∧ cur.head? ≠ some 34 then cur :: partsG [] t else partsG (cur ++ [c]) t := by rw [partsG]
theorem parts_nil (cur : List UInt8) : partsG cur [] = [cur] := by rw [partsG]
theorem drop_cons {α : Type} {l : List α} {j : Nat} {d : α} (h : j < l.length) : l.drop j = l.getD j d :: l.drop (j + 1) := by
  rw [List.drop_eq_getElem_cons h]
  simp [List.getD, h]
/-- the op so far -/
def opAt (w : List UInt8) (k : Int) : Int := if 1 ≤ idxW w wdL ∧ idxW w wdL < k then idxW w wdL else 0
theorem op_hit {w : List UInt8} {k : Int} (h : 1 ≤ k ∧ k ≤ 32) (e : wdS k = w) : opAt w (k + 1) = k := by
  have := wd_at h
  rw [e] at this
  unfold opAt
  rw [this, if_pos (by omega)]
theorem op_miss {w : List UInt8} {k : Int} (h : 1 ≤ k ∧ k ≤ 32) (e : ¬wdS k = w) : opAt w (k + 1) = opAt w k := by
  unfold opAt
  have : ¬idxW w wdL = k := fun h2 => e (by rw [← h2]; exact idxW_wd (by omega))
  by_cases h1 : 1 ≤ idxW w wdL ∧ idxW w wdL < k
  · rw [if_pos h1, if_pos (by omega)]
  · rw [if_neg h1, if_neg (by omega)]
theorem op_end (w : List UInt8) : opAt w 33 = if idxW w wdL ≤ 0 then 0 else idxW w wdL := by
  have := idxW_range w wdL
  rw [show wdL.length = 33 by decide] at this
  unfold opAt
  by_cases h : idxW w wdL ≤ 0
  · rw [if_pos h, if_neg (by omega)]
  · rw [if_neg h, if_pos (by omega)]
theorem fold_cons (q : Nat × List Int × List UInt8 × List UInt8) (p : List UInt8) (l : List (List UInt8)) : foldR q (p :: l) = match stepR q p with
    | none => none
    | some q' => foldR q' l := by
  rw [foldR]
  rfl
theorem fold_nil (q : Nat × List Int × List UInt8 × List UInt8) : foldR q [] = some q := by rw [foldR]
theorem unqG_nil : unqG [] = some [] := by rw [unqG.eq_def]
theorem unqG_34 (t : List UInt8) : unqG (34 :: t) = none := by
  rw [unqG.eq_def]
  dsimp only
  rw [if_pos rfl]
theorem unqG_plain {c : UInt8} (t : List UInt8) (h : c ≠ 34) (h2 : c ≠ 92) : unqG (c :: t) = (unqG t).map (c :: ·) := by
  rw [unqG.eq_def]
  dsimp only
  rw [if_neg h, if_pos h2]
theorem unqG_end : unqG [92] = none := by
  rw [unqG.eq_def]
  dsimp only
  rw [if_neg (by decide), if_neg (by decide)]
theorem unqG_esc {d : UInt8} (u : List UInt8) (h : d = 34 ∨ d = 92) : unqG (92 :: d :: u) = (unqG u).map (d :: ·) := by
  rw [unqG.eq_def]
  dsimp only
  rw [if_neg (by decide), if_neg (by decide), if_pos h]
theorem unqG_nl (u : List UInt8) : unqG (92 :: 110 :: u) = (unqG u).map (10 :: ·) := by
  rw [unqG.eq_def]
  dsimp only
  rw [if_neg (by decide), if_neg (by decide), if_neg (by decide), if_pos rfl]
theorem unqG_short (u : List UInt8) (h : u.length < 2) : unqG (92 :: 120 :: u) = none := by
  rw [unqG.eq_def]
  dsimp only
  rw [if_neg (by decide), if_neg (by decide), if_neg (by decide), if_neg (by decide), if_pos rfl]
  match u, h with
  | [], _ => rfl
  | [a], _ => rfl
  | a :: b :: v, h => simp at h; omega
theorem unqG_x (a b : UInt8) (v : List UInt8) : unqG (92 :: 120 :: a :: b :: v) = match pairS a b with
    | none => none
    | some x => (unqG v).map (x :: ·) := by
  rw [unqG.eq_def]
  dsimp only
  rw [if_neg (by decide), if_neg (by decide), if_neg (by decide), if_neg (by decide), if_pos rfl]
  rfl
theorem unqG_other {d : UInt8} (u : List UInt8) (h : ¬(d = 34 ∨ d = 92)) (h1 : d ≠ 110) (h2 : d ≠ 120) : unqG (92 :: d :: u) = none := by
  rw [unqG.eq_def]
  dsimp only
  rw [if_neg (by decide), if_neg (by decide), if_neg h, if_neg h1, if_neg h2]
theorem digP_cons {c : UInt8} {t : List UInt8} : digP (c :: t) ↔ (48 ≤ c.toNat ∧ c.toNat ≤ 57) ∧ digP t := by
  unfold digP
  simp only [List.mem_cons, forall_eq_or_imp]
theorem valD_bound : ∀ (l : List UInt8) (n : Nat), l.length ≤ n → digP l → valD l < 10 ^ n := fun l n h hd => Nat.lt_of_lt_of_le (val_lt l hd) (Nat.pow_le_pow_right (by decide) h)
end Go.Proofs.YtdnicbbandbdbaaDoor
