/- Lines of scripts, read part by part, in plain Lean. No condition. -/
import Derived.Test.YtdnicbbandbdbaaDoorQ1
namespace Go.Proofs.YtdnicbbandbdbaaDoor
/-- what stands ahead of the first such byte -/
def fore (b : UInt8) (l : List UInt8) : List UInt8 := l.takeWhile (· != b)
theorem fore_cons (b c : UInt8) (l : List UInt8) : fore b (c :: l) = if c = b then [] else c :: fore b l := by
  unfold fore
  rw [List.takeWhile_cons]
  by_cases h : c = b <;> simp [h]
theorem fore_len (b : UInt8) : ∀ l : List UInt8, (fore b l).length ≤ l.length
  | [] => Nat.le_refl _
  | c :: l => by
    have := fore_len b l
    rw [fore_cons]
    split <;> simp <;> omega
theorem fore_not (b : UInt8) : ∀ l : List UInt8, b ∉ fore b l
  | [] => by simp [fore]
  | c :: l => by
    have := fore_not b l
    rw [fore_cons]
    split
    · simp
    · rename_i h
      simp only [List.mem_cons, not_or]
      exact ⟨fun e => h e.symm, this⟩
theorem fore_all {b : UInt8} {l : List UInt8} (h : b ∉ l) : fore b l = l := by
  induction l with
  | nil => rfl
  | cons c l ih =>
    have hc : (c != b) = true := by simpa using fun e : c = b => h (by simp [e])
    unfold fore
    rw [List.takeWhile_cons, if_pos hc]
    have := ih (fun e => h (by simp [e]))
    unfold fore at this
    rw [this]
theorem fore_app {b : UInt8} {l r : List UInt8} (h : b ∉ l) : fore b (l ++ b :: r) = l := by
  induction l with
  | nil => simp [fore]
  | cons c l ih =>
    have hc : (c != b) = true := by simpa using fun e : c = b => h (by simp [e])
    unfold fore
    rw [List.cons_append, List.takeWhile_cons, if_pos hc]
    have := ih (fun e => h (by simp [e]))
    unfold fore at this
    rw [this]
theorem fore_cut (b : UInt8) : ∀ l : List UInt8, (fore b l).length < l.length → l = fore b l ++ b :: l.drop ((fore b l).length + 1)
  | [], h => by simp at h
  | c :: l, h => by
    by_cases hc : c = b
    · subst hc
      simp [fore]
    · have hc' : (c != b) = true := by simpa using hc
      have e : fore b (c :: l) = c :: fore b l := by unfold fore; rw [List.takeWhile_cons, if_pos hc']
      rw [e] at h ⊢
      have := fore_cut b l (by simpa using h)
      rw [List.cons_append, List.length_cons, List.drop_succ_cons, ← this]
theorem fore_whole (b : UInt8) (l : List UInt8) (h : ¬(fore b l).length < l.length) : fore b l = l := by
  have h2 := fore_len b l
  have : (fore b l) <+: l := List.takeWhile_prefix _
  exact this.eq_of_length (by omega)
/-- a word, and what is left -/
def wordR (r : List UInt8) : List UInt8 × List UInt8 :=
  if (fore 32 r).length < r.length then (fore 32 r, if r.drop ((fore 32 r).length + 1) = [] then [32] else r.drop ((fore 32 r).length + 1)) else (r, [])
theorem word_last {s : List UInt8} (h : 32 ∉ s) : wordR s = (s, []) := by
  unfold wordR
  rw [fore_all h, if_neg (by omega)]
theorem word_app {s r : List UInt8} (h : 32 ∉ s) (hr : r ≠ []) : wordR (s ++ 32 :: r) = (s, r) := by
  unfold wordR
  have hd : (s ++ 32 :: r).drop (s.length + 1) = r := by
    rw [List.drop_append]
    simp
  rw [fore_app h, if_pos (by simp), hd, if_neg hr]
theorem word_sound (r : List UInt8) : 32 ∉ (wordR r).1 ∧ ((r = (wordR r).1 ∧ (wordR r).2 = []) ∨ (r = (wordR r).1 ++ [32] ∧ (wordR r).2 = [32]) ∨ (r = (wordR r).1 ++ 32 :: (wordR r).2 ∧ (wordR r).2 ≠ [])) := by
  unfold wordR
  split
  · rename_i h
    have hc := fore_cut 32 r h
    refine ⟨fore_not 32 r, .inr ?_⟩
    dsimp only
    split
    · rename_i hn
      rw [hn] at hc
      exact .inl ⟨hc, rfl⟩
    · rename_i hn
      exact .inr ⟨hc, hn⟩
  · rename_i h
    have := fore_whole 32 r h
    refine ⟨?_, .inl ⟨rfl, rfl⟩⟩
    dsimp only
    rw [← this]
    exact fore_not 32 r
theorem word_short {r : List UInt8} (h : (wordR r).1 ≠ []) : (wordR r).2.length < r.length := by
  have hp : 0 < (wordR r).1.length := List.length_pos_iff.2 h
  rcases (word_sound r).2 with ⟨h1, h2⟩ | ⟨h1, h2⟩ | ⟨h1, h2⟩
  · rw [h2]
    have : 0 < r.length := by rw [h1]; exact hp
    simpa using this
  · have := congrArg List.length h1
    rw [h2]
    simp only [List.length_append, List.length_singleton] at this ⊢
    omega
  · have := congrArg List.length h1
    simp only [List.length_append, List.length_cons] at this
    omega
/-- are there no more numbers? -/
def stopR (r : List UInt8) : Prop := r = [] ∨ r.head? = some 35 ∨ r.head? = some 34
instance (r : List UInt8) : Decidable (stopR r) := inferInstanceAs (Decidable (_ ∨ _))
/-- numbers, and what is left -/
def intsF : Nat → List UInt8 → Option (List Int × List UInt8)
  | 0, _ => none
  | f + 1, r => if stopR r then some ([], r) else match numO (wordR r).1 with
    | none => none
    | some n => (intsF f (wordR r).2).map fun q => (n :: q.1, q.2)
theorem ints_fuel : ∀ (f g : Nat) (r : List UInt8), r.length < f → r.length < g → intsF f r = intsF g r
  | 0, _, _, h, _ => by omega
  | _, 0, _, _, h => by omega
  | f + 1, g + 1, r, hf, hg => by
    rw [intsF, intsF]
    split
    · rfl
    · cases hn : numO (wordR r).1 with
      | none => rfl
      | some n =>
        have := word_short (numO_ne hn)
        dsimp only
        rw [ints_fuel f g _ (by omega) (by omega)]
def intsS (r : List UInt8) : Option (List Int × List UInt8) := intsF (r.length + 1) r
theorem ints_stop {r : List UInt8} (h : stopR r) : intsS r = some ([], r) := by
  unfold intsS
  rw [intsF, if_pos h]
theorem ints_none {r : List UInt8} (h : ¬stopR r) (hn : numO (wordR r).1 = none) : intsS r = none := by
  unfold intsS
  rw [intsF, if_neg h, hn]
theorem ints_some {r : List UInt8} (h : ¬stopR r) {n : Int} (hn : numO (wordR r).1 = some n) : intsS r = (intsS (wordR r).2).map fun q => (n :: q.1, q.2) := by
  unfold intsS
  rw [intsF, if_neg h, hn]
  have := word_short (numO_ne hn)
  dsimp only
  rw [ints_fuel r.length ((wordR r).2.length + 1) _ (by omega) (by omega)]
/-- bytes behind their sign -/
def bytsS (s : List UInt8) : Option (List UInt8) := if s = [] ∨ s.length % 2 = 1 then none else unhexS s
/-- a text: all that is left -/
def txtS (r : List UInt8) : Option (List UInt8) := if r.getLast? = some 34 ∧ 2 < r.length then unqS (r.dropLast.drop 1) else none
/-- a place in a list of words -/
def idxW (w : List UInt8) : List (List UInt8) → Int
  | [] => -1
  | v :: l => if v = w then 0 else if idxW w l < 0 then -1 else idxW w l + 1
def ifOk (x : Cl) : Option Cl := if okC x then some x else none
theorem ifOk_iff {x y : Cl} : ifOk x = some y ↔ okC x ∧ x = y := by
  unfold ifOk
  split
  · rename_i h; simp [h]
  · rename_i h; simp [h]
/-- a line's command -/
def callS (l : List UInt8) : Option Cl :=
  if idxW (wordR l).1 wdL ≤ 0 then none else
  match intsS (wordR l).2 with
  | none => none
  | some (is, r) =>
    match (if r.head? = some 35 then (bytsS ((wordR r).1.drop 1)).map fun b => (b, (wordR r).2) else some ([], r)) with
    | none => none
    | some (bs, r) =>
      match (if r = [] then some [] else if r.head? = some 34 then txtS r else none) with
      | none => none
      | some tx => ifOk ⟨idxW (wordR l).1 wdL, is, bs, tx⟩
theorem idxW_range (w : List UInt8) : ∀ l : List (List UInt8), -1 ≤ idxW w l ∧ idxW w l < l.length
  | [] => by simp [idxW]
  | v :: l => by
    have := idxW_range w l
    simp only [idxW, List.length_cons]
    split
    · omega
    · split <;> omega
theorem idxW_get (w : List UInt8) : ∀ l : List (List UInt8), 0 ≤ idxW w l → l.getD (idxW w l).toNat [] = w
  | [], h => by simp [idxW] at h
  | v :: l, h => by
    simp only [idxW] at h ⊢
    split
    · rename_i hv; simpa using hv
    · rename_i hv
      rw [if_neg hv] at h
      split at h
      · omega
      · rename_i hn
        rw [if_neg hn, show (idxW w l + 1).toNat = (idxW w l).toNat + 1 by omega, List.getD_cons_succ]
        exact idxW_get w l (by omega)
theorem idxW_wd {w : List UInt8} (h : 0 < idxW w wdL) : wdS (idxW w wdL) = w := by
  have hr := idxW_range w wdL
  have hl : (wdL.length : Int) = 33 := by decide
  have := idxW_get w wdL (by omega)
  unfold wdS
  rw [if_pos (by omega), this]
theorem wd_idx : ∀ k : Fin 32, idxW (wdS (k.val + 1)) wdL = k.val + 1 := by decide +kernel
theorem wd_at {op : Int} (h : 1 ≤ op ∧ op ≤ 32) : idxW (wdS op) wdL = op := by
  have := wd_idx ⟨(op - 1).toNat, by omega⟩
  have e : (((op - 1).toNat : Nat) : Int) + 1 = op := by omega
  simp only [e] at this
  exact this
theorem wd_bytes : ∀ w ∈ wdL, 32 ∉ w ∧ 34 ∉ w ∧ 10 ∉ w ∧ w ≠ [] := by decide +kernel
theorem wdS_mem {op : Int} (h : 1 ≤ op ∧ op ≤ 32) : wdS op ∈ wdL := by
  unfold wdS
  rw [if_pos h]
  have hl : wdL.length = 33 := by decide
  rw [List.getD_eq_getElem?_getD, List.getElem?_eq_getElem (by omega)]
  exact List.getElem_mem _
/-- parts, with blanks between -/
def joinS : List (List UInt8) → List UInt8
  | [] => []
  | [p] => p
  | p :: q :: l => p ++ 32 :: joinS (q :: l)
/-- the parts of a command's line behind its word -/
def ptsS (is : List Int) (bs tx : List UInt8) : List (List UInt8) := is.map Lib.itoa ++ (if bs = [] then [] else [35 :: hexS bs]) ++ (if tx = [] then [] else [quoS tx])
theorem join_flat (w : List UInt8) : ∀ l : List (List UInt8), joinS (w :: l) = w ++ l.flatMap (32 :: ·)
  | [] => by simp [joinS]
  | p :: l => by
    rw [joinS, join_flat p l, List.flatMap_cons]
    simp
theorem line_join (x : Cl) : lineS x = joinS (wdS x.op :: ptsS x.is x.bs x.tx) := by
  rw [join_flat]
  unfold lineS numsS ptsS
  rw [List.flatMap_append, List.flatMap_append, List.flatMap_map]
  have h1 : (if x.bs = [] then [] else 32 :: 35 :: hexS x.bs) = (if x.bs = [] then [] else [35 :: hexS x.bs]).flatMap (32 :: ·) := by split <;> simp
  have h2 : (if x.tx = [] then [] else 32 :: quoS x.tx) = (if x.tx = [] then [] else [quoS x.tx]).flatMap (32 :: ·) := by split <;> simp
  rw [h1, h2]
  simp
theorem join_ne {p : List UInt8} {l : List (List UInt8)} (h : p ≠ []) : joinS (p :: l) ≠ [] := by
  rw [join_flat]
  simp [h]
end Go.Proofs.YtdnicbbandbdbaaDoor
