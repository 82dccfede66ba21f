/- Texts of scripts, line by line, in plain Lean. No condition. -/
import Derived.Test.YtdnicbbandbdbaaDoorQ4
namespace Go.Proofs.YtdnicbbandbdbaaDoor
def canW : List UInt8 := [99, 97, 110, 118, 97, 115]
/-- the canvas of a line: by the program, by the document -/
def canP (l : List UInt8) : Option (Int × Int) :=
  if (wordR l).1 ≠ canW then none else
  match numO (wordR (wordR l).2).1, numO (wordR (wordR (wordR l).2).2).1 with
  | some w, some h => if (wordR (wordR (wordR l).2).2).2 = [] ∧ sideP w ∧ sideP h then some (w, h) else none
  | _, _ => none
def canR (l : List UInt8) : Option (Int × Int) :=
  match partsR l with
  | [c, a, b] => if c ≠ canW then none else match numR a, numR b with
    | some w, some h => if sideP w ∧ sideP h then some (w, h) else none
    | _, _ => none
  | _ => none
theorem canS_join (w h : Int) : canS w h = joinS [canW, Lib.itoa w, Lib.itoa h] := by
  simp [canS, numsS, joinS, canW]
theorem side_most {n : Int} (h : sideP n) : inMost n := by unfold sideP at h; unfold inMost most; omega
theorem canP_iff {l : List UInt8} {w h : Int} : canP l = some (w, h) ↔ (sideP w ∧ sideP h) ∧ l = canS w h := by
  have hc : 32 ∉ canW := by decide
  constructor
  · intro e
    unfold canP at e
    split at e
    · cases e
    · rename_i h0
      have h0 : (wordR l).1 = canW := Decidable.byContradiction h0
      split at e
      · rename_i x y hx hy
        split at e
        · rename_i hs
          cases e
          obtain ⟨s1, s2, s3⟩ := hs
          refine ⟨⟨s2, s3⟩, ?_⟩
          obtain ⟨x1, _⟩ := numO_iff.1 hx
          obtain ⟨y1, _⟩ := numO_iff.1 hy
          have a1 := (word_sound l).2
          have a2 := (word_sound (wordR l).2).2
          have a3 := (word_sound (wordR (wordR l).2).2).2
          have nx := numO_ne hx
          have ny := numO_ne hy
          obtain ⟨r1, hr1⟩ : ∃ r, (wordR l).2 = r := ⟨_, rfl⟩
          rw [hr1] at a1 a2 a3 x1 y1 s1 nx ny
          obtain ⟨r2, hr2⟩ : ∃ r, (wordR r1).2 = r := ⟨_, rfl⟩
          rw [hr2] at a2 a3 y1 s1 ny
          rw [s1, y1] at a3
          have b3 : r2 = Lib.itoa h := by
            rcases a3 with ⟨h1, _⟩ | ⟨_, h2⟩ | ⟨_, h2⟩
            · exact h1
            · cases h2
            · exact absurd rfl h2
          have b2 : r1 = Lib.itoa w ++ 32 :: r2 := by
            rw [x1] at a2
            rcases a2 with ⟨_, h2⟩ | ⟨_, h2⟩ | ⟨h1, _⟩
            · rw [h2] at b3; exact absurd b3.symm (itoa_ne h)
            · rw [h2] at b3
              exact absurd (show (32 : UInt8) ∈ Lib.itoa h by rw [← b3]; exact List.Mem.head _) (itoa_no h).1
            · exact h1
          have b1 : l = canW ++ 32 :: r1 := by
            rw [h0] at a1
            rcases a1 with ⟨_, h2⟩ | ⟨_, h2⟩ | ⟨h1, _⟩
            · rw [h2] at b2
              exact absurd (List.append_eq_nil_iff.1 b2.symm).2 (by simp)
            · rw [h2] at b2
              have := congrArg List.length b2
              have := List.length_pos_iff.2 (itoa_ne w)
              simp at *
              omega
            · exact h1
          rw [canS_join, b1, b2, b3]
          rfl
        · cases e
      · cases e
  · rintro ⟨⟨h1, h2⟩, rfl⟩
    rw [canS_join]
    unfold canP
    have w1 : wordR (joinS [canW, Lib.itoa w, Lib.itoa h]) = (canW, joinS [Lib.itoa w, Lib.itoa h]) := word_app hc (join_ne (itoa_ne w))
    have w2 : wordR (joinS [Lib.itoa w, Lib.itoa h]) = (Lib.itoa w, Lib.itoa h) := word_app (itoa_no w).1 (itoa_ne h)
    have w3 : wordR (Lib.itoa h) = (Lib.itoa h, []) := word_last (itoa_no h).1
    rw [w1]
    dsimp only
    rw [w2]
    dsimp only
    rw [w3, num_itoa (side_most h1), num_itoa (side_most h2)]
    dsimp only
    rw [if_neg (by simp), if_pos ⟨rfl, h1, h2⟩]
theorem canR_iff {l : List UInt8} {w h : Int} : canR l = some (w, h) ↔ (sideP w ∧ sideP h) ∧ l = canS w h := by
  constructor
  · intro e
    unfold canR at e
    split at e
    · rename_i c a b hp
      split at e
      · cases e
      · rename_i h0
        have h0 : c = canW := Decidable.byContradiction h0
        split at e
        · rename_i x y hx hy
          split at e
          · rename_i hs
            cases e
            refine ⟨hs, ?_⟩
            rw [numR_eq] at hx hy
            have := parts_join l []
            rw [show partsG [] l = [c, a, b] from hp, List.nil_append] at this
            rw [canS_join, ← this, h0, (numO_iff.1 hx).1, (numO_iff.1 hy).1]
          · cases e
        · cases e
    · cases e
  · rintro ⟨⟨h1, h2⟩, rfl⟩
    have hp : ∀ n : Int, plainP (Lib.itoa n) := fun n => ⟨(itoa_no n).1, fun e => (itoa_no n).2.1 (List.mem_of_head? e)⟩
    have : partsR (canS w h) = [canW, Lib.itoa w, Lib.itoa h] := by
      rw [canS_join]
      refine parts_plain [canW, Lib.itoa w] (Lib.itoa h) (fun p hp' => ?_) (.inl (hp h))
      simp only [List.mem_cons, List.not_mem_nil, or_false] at hp'
      rcases hp' with rfl | rfl
      · exact ⟨by decide, by decide⟩
      · exact hp w
    unfold canR
    rw [this]
    dsimp only
    rw [if_neg (by simp), numR_eq, numR_eq, num_itoa (side_most h1), num_itoa (side_most h2)]
    dsimp only
    rw [if_pos ⟨h1, h2⟩]
theorem can_eq (l : List UInt8) : canR l = canP l := by
  cases h : canP l with
  | some x => exact canR_iff.2 (canP_iff.1 h)
  | none =>
    cases h2 : canR l with
    | none => rfl
    | some x => rw [canP_iff.2 (canR_iff.1 h2)] at h; cases h
/-- a text's lines: where it is, the canvas, the commands so far -/
structure Sn where
  a : Nat
  wh : Option (Int × Int)
  cs : List Cl
def lnS (s : Sn) (line : List UInt8) : Option Sn :=
  match s.wh with
  | none => (canP line).map fun p => ⟨s.a + (line.length + 1), some p, s.cs⟩
  | some p => if s.cs.length = 200 then none else (callS line).map fun x => ⟨s.a + (line.length + 1), some p, s.cs ++ [x]⟩
def scanF : Nat → Sn → List UInt8 → Sum Sn Nat
  | 0, s, _ => .inr s.a
  | f + 1, s, t => if t = [] then .inl s else if (fore 10 t).length = t.length then .inr s.a else
    match lnS s (fore 10 t) with
    | none => .inr s.a
    | some s' => scanF f s' (t.drop ((fore 10 t).length + 1))
theorem scan_fuel : ∀ (f g : Nat) (s : Sn) (t : List UInt8), t.length < f → t.length < g → scanF f s t = scanF g s t
  | 0, _, _, _, h, _ => by omega
  | _, 0, _, _, _, h => by omega
  | f + 1, g + 1, s, t, hf, hg => by
    rw [scanF, scanF]
    split
    · rfl
    · split
      · rfl
      · cases lnS s (fore 10 t) with
        | none => rfl
        | some s' =>
          dsimp only
          have : 0 < t.length := by
            cases t with
            | nil => simp at *
            | cons c t => simp
          exact scan_fuel f g s' _ (by simp; omega) (by simp; omega)
def scanS (s : Sn) (t : List UInt8) : Sum Sn Nat := scanF (t.length + 1) s t
theorem scan_nil (s : Sn) : scanS s [] = .inl s := rfl
theorem scan_open {s : Sn} {t : List UInt8} (h : t ≠ []) (hl : (fore 10 t).length = t.length) : scanS s t = .inr s.a := by
  unfold scanS
  rw [scanF, if_neg h, if_pos hl]
theorem scan_bad {s : Sn} {t : List UInt8} (h : t ≠ []) (hn : lnS s (fore 10 t) = none) : scanS s t = .inr s.a := by
  unfold scanS
  rw [scanF, if_neg h, hn]
  split <;> rfl
theorem scan_next {s s' : Sn} {t : List UInt8} (hl : (fore 10 t).length < t.length) (hn : lnS s (fore 10 t) = some s') : scanS s t = scanS s' (t.drop ((fore 10 t).length + 1)) := by
  unfold scanS
  rw [scanF, if_neg (by rintro rfl; simp at hl), if_neg (by omega), hn]
  dsimp only
  exact scan_fuel _ _ _ _ (by simp; omega) (by omega)
abbrev eLong : Nat := 3
/-- a text's script, its error, the place -/
def parseS (t : List UInt8) : Sum Sc (Nat × Nat) :=
  if 262144 < t.length then .inr (eLong, 0) else if t = [] then .inr (380, 0) else
  match scanS ⟨0, none, []⟩ t with
  | .inr a => .inr (380, a)
  | .inl s => match s.wh with
    | none => .inr (380, 0)
    | some p => .inl ⟨p.1, p.2, s.cs⟩
theorem quoS_no (tx : List UInt8) : 10 ∉ quoS tx := by
  unfold quoS
  intro h
  simp only [List.mem_cons, List.mem_append, List.mem_flatMap, List.not_mem_nil, or_false] at h
  rcases h with h | ⟨c, _, h⟩ | h
  · cases h
  · exact quoB_no c h
  · cases h
theorem lineS_no {x : Cl} (h : okC x) : 10 ∉ lineS x := by
  have hwb := wd_bytes _ (wdS_mem h.1)
  unfold lineS numsS
  intro e
  simp only [List.mem_append, List.mem_flatMap] at e
  rcases e with (e | ⟨n, _, e⟩ | e) | e
  · exact hwb.2.2.1 e
  · rcases List.mem_cons.1 e with e | e
    · cases e
    · exact (itoa_no n).2.2.2 e
  · split at e
    · cases e
    · simp only [List.mem_cons] at e
      rcases e with e | e | e
      · cases e
      · cases e
      · exact (hexS_byte _ _ e).2.2 rfl
  · split at e
    · cases e
    · rcases List.mem_cons.1 e with e | e
      · cases e
      · exact quoS_no _ e
theorem canS_no (w h : Int) : 10 ∉ canS w h := by
  rw [canS_join]
  simp only [joinS, List.mem_append, List.mem_cons, not_or]
  exact ⟨by decide, by decide, (itoa_no w).2.2.2, by decide, (itoa_no h).2.2.2⟩
/-- no line is too long for the document -/
theorem hexS_len' (l : List UInt8) : (hexS l).length = 2 * l.length := hexS_len l
theorem quoB_len (c : UInt8) : (quoB c).length ≤ 4 := by
  unfold quoB
  split
  · simp
  · split
    · simp
    · split
      · simp [hexB]
      · simp
theorem flat_len {α : Type} (f : α → List UInt8) (k : Nat) (h : ∀ a, (f a).length ≤ k) : ∀ l : List α, (l.flatMap f).length ≤ k * l.length
  | [] => by simp
  | a :: l => by
    have := flat_len f k h l
    have := h a
    rw [List.flatMap_cons, List.length_append, List.length_cons, Nat.mul_succ]
    omega
theorem flat_len' {α : Type} (f : α → List UInt8) (k : Nat) : ∀ l : List α, (∀ a ∈ l, (f a).length ≤ k) → (l.flatMap f).length ≤ k * l.length
  | [], _ => by simp
  | a :: l, h => by
    have := flat_len' f k l fun b hb => h b (List.Mem.tail _ hb)
    have := h a (List.Mem.head _)
    rw [List.flatMap_cons, List.length_append, List.length_cons, Nat.mul_succ]
    omega
theorem wd_len : ∀ w ∈ wdL, w.length ≤ 11 := by decide +kernel
theorem lineS_len {x : Cl} (h : okC x) : (lineS x).length ≤ 60000 := by
  obtain ⟨h1, h2, h3, h4, h5⟩ := h
  have e1 := wd_len _ (wdS_mem h1)
  have e2 := flat_len' (fun n => 32 :: Lib.itoa n) 12 x.is fun n hn => by
    have := itoa_len (h5 n hn)
    simp only [List.length_cons]
    omega
  have e3 := hexS_len x.bs
  have e4 := flat_len quoB 4 quoB_len x.tx
  unfold lineS numsS
  simp only [List.length_append]
  have e5 : ∀ (P : Prop) [Decidable P] (a b : List UInt8), a.length ≤ b.length → (if P then a else b).length ≤ b.length := by
    intro P _ a b h
    split
    · exact h
    · exact Nat.le_refl _
  have e6 := e5 (x.bs = []) [] (32 :: 35 :: hexS x.bs) (by simp)
  have e7 := e5 (x.tx = []) [] (32 :: quoS x.tx) (by simp)
  have e8 : (32 :: quoS x.tx).length = 3 + (x.tx.flatMap quoB).length := by unfold quoS; simp only [List.length_cons, List.length_append, List.length_singleton, List.length_nil]; omega
  simp only [List.length_cons] at e6
  omega
theorem canS_len {w h : Int} (hw : sideP w) (hh : sideP h) : (canS w h).length ≤ 60000 := by
  have e1 := itoa_len (side_most hw)
  have e2 := itoa_len (side_most hh)
  rw [canS_join]
  simp only [joinS, List.length_append, List.length_cons]
  have : canW.length = 6 := by decide
  omega
end Go.Proofs.YtdnicbbandbdbaaDoor
