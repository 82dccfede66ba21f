/- Scripts and their texts, in plain Lean: no program in sight. No condition. -/
import Derived.Lib.ItoaNum
import Derived.Lib.IndexMore
namespace Go.Proofs.YtdnicbbandbdbaaDoor
/-- a command; a script -/
structure Cl where
  op : Int
  is : List Int
  bs : List UInt8
  tx : List UInt8
structure Sc where
  w : Int
  h : Int
  cs : List Cl
/-- the commands' words, from 1 on -/
def wdL : List (List UInt8) := [[45], [101, 114, 114, 111, 114], [103, 101, 110], [100, 101, 108, 101, 116, 101], [105, 115], [98, 105, 110, 100, 98, 117, 102, 102, 101, 114], [100, 97, 116, 97], [115, 117, 98], [98, 105, 110, 100, 116, 101, 120, 116, 117, 114, 101], [105, 109, 97, 103, 101], [112, 105, 101, 99, 101], [112, 97, 114, 97, 109], [109, 105, 112, 109, 97, 112], [115, 104, 97, 100, 101, 114], [108, 105, 110, 107], [117, 115, 101], [97, 116, 116, 114, 105, 98], [117, 110, 105, 102, 111, 114, 109], [115, 101, 116], [103, 101, 116], [112, 111, 105, 110, 116, 101, 114], [97, 114, 114, 97, 121], [99, 111, 110, 115, 116], [118, 105, 101, 119], [115, 116, 97, 116, 101], [116, 101, 108, 108], [118, 97, 108, 117, 101, 115], [99, 108, 101, 97, 114], [98, 105, 110, 100, 102, 114, 97, 109, 101], [112, 108, 97, 110, 101, 115], [100, 114, 97, 119], [101, 108, 101, 109, 101, 110, 116, 115], [114, 101, 97, 100]]
def wdS (op : Int) : List UInt8 := if 1 ≤ op ∧ op ≤ 32 then wdL.getD op.toNat [] else []
abbrev most : Int := 9999999999
def hexL : List UInt8 := [48, 49, 50, 51, 52, 53, 54, 55, 56, 57, 97, 98, 99, 100, 101, 102]
def hexD (n : Nat) : UInt8 := hexL.getD n 0
def hexB (b : UInt8) : List UInt8 := [hexD (b.toNat / 16), hexD (b.toNat % 16)]
def hexS (l : List UInt8) : List UInt8 := l.flatMap hexB
def quoB (c : UInt8) : List UInt8 := if c = 34 ∨ c = 92 then [92, c] else if c = 10 then [92, 110] else if c.toNat < 32 ∨ 126 < c.toNat then 92 :: 120 :: hexB c else [c]
def quoS (l : List UInt8) : List UInt8 := 34 :: (l.flatMap quoB ++ [34])
def numsS (is : List Int) (bs : List UInt8) : List UInt8 := is.flatMap (fun n => 32 :: Lib.itoa n) ++ (if bs = [] then [] else 32 :: 35 :: hexS bs)
/-- a command's line, without its end -/
def lineS (x : Cl) : List UInt8 := wdS x.op ++ numsS x.is x.bs ++ (if x.tx = [] then [] else 32 :: quoS x.tx)
def canS (w h : Int) : List UInt8 := [99, 97, 110, 118, 97, 115] ++ numsS [w, h] []
def textS (s : Sc) : List UInt8 := canS s.w s.h ++ [10] ++ s.cs.flatMap (fun x => lineS x ++ [10])
def inMost (n : Int) : Prop := -most ≤ n ∧ n ≤ most
instance (n : Int) : Decidable (inMost n) := inferInstanceAs (Decidable (_ ∧ _))
def sideP (n : Int) : Prop := 1 ≤ n ∧ n ≤ 64
instance (n : Int) : Decidable (sideP n) := inferInstanceAs (Decidable (_ ∧ _))
def okC (x : Cl) : Prop := (1 ≤ x.op ∧ x.op ≤ 32) ∧ x.is.length ≤ 24 ∧ x.bs.length ≤ 8192 ∧ x.tx.length ≤ 8192 ∧ ∀ n ∈ x.is, inMost n
instance (x : Cl) : Decidable (okC x) := inferInstanceAs (Decidable (_ ∧ _))
def okS (s : Sc) : Prop := sideP s.w ∧ sideP s.h ∧ s.cs.length ≤ 200 ∧ ∀ x ∈ s.cs, okC x
instance (s : Sc) : Decidable (okS s) := inferInstanceAs (Decidable (_ ∧ _))
instance clDec : DecidableEq Cl := fun a b => decidable_of_iff (a.op = b.op ∧ a.is = b.is ∧ a.bs = b.bs ∧ a.tx = b.tx) (by cases a; cases b; simp)
instance scDec : DecidableEq Sc := fun a b => decidable_of_iff (a.w = b.w ∧ a.h = b.h ∧ a.cs = b.cs) (by cases a; cases b; simp)

/-! numbers -/
theorem dd_rec {n : Nat} (h : ¬n < 10) : Lib.decDigits n = Lib.decDigits (n / 10) ++ [UInt8.ofNat (48 + n % 10)] := by rw [Lib.decDigits, dif_neg h]
theorem dg_of {d : Nat} (h : d < 10) : (48 ≤ (UInt8.ofNat (48 + d)).toNat ∧ (UInt8.ofNat (48 + d)).toNat ≤ 57) ∧ (UInt8.ofNat (48 + d)).toNat - 48 = d := by
  have : d = 0 ∨ d = 1 ∨ d = 2 ∨ d = 3 ∨ d = 4 ∨ d = 5 ∨ d = 6 ∨ d = 7 ∨ d = 8 ∨ d = 9 := by omega
  rcases this with rfl | rfl | rfl | rfl | rfl | rfl | rfl | rfl | rfl | rfl <;> decide
theorem dd_all (n : Nat) : ∀ b ∈ Lib.decDigits n, 48 ≤ b.toNat ∧ b.toNat ≤ 57 := by
  induction n using Nat.strongRecOn with
  | _ n ih =>
    by_cases h : n < 10
    · rw [Lib.decDigits_one h]
      intro b hb
      rw [List.mem_singleton] at hb
      rw [hb]
      exact (dg_of h).1
    · rw [dd_rec h]
      intro b hb
      rcases List.mem_append.1 hb with hb | hb
      · exact ih (n / 10) (by omega) b hb
      · rw [List.mem_singleton] at hb
        rw [hb]
        exact (dg_of (by omega)).1
def valD (l : List UInt8) : Nat := l.foldl (fun a b => a * 10 + (b.toNat - 48)) 0
theorem val_snoc (l : List UInt8) (b : UInt8) : valD (l ++ [b]) = valD l * 10 + (b.toNat - 48) := by simp [valD]
theorem val_dd (n : Nat) : valD (Lib.decDigits n) = n := by
  induction n using Nat.strongRecOn with
  | _ n ih =>
    by_cases h : n < 10
    · rw [Lib.decDigits_one h]
      show 0 * 10 + ((UInt8.ofNat (48 + n)).toNat - 48) = n
      rw [(dg_of h).2]
      omega
    · rw [dd_rec h, val_snoc, ih (n / 10) (by omega), (dg_of (show n % 10 < 10 by omega)).2]
      omega
theorem dd_ne (n : Nat) : Lib.decDigits n ≠ [] := by
  intro h
  have := Lib.decDigits_length n
  rw [h] at this
  have := Lib.nDigits_pos n
  simp at *
  omega
theorem dd_len {n : Nat} (h : n ≤ 9999999999) : (Lib.decDigits n).length ≤ 10 := by
  rw [Lib.decDigits_length]
  by_cases h0 : n < 10
  · rw [Lib.nDigits_small h0]; omega
  · have : ∀ k, n < 10 ^ (k + 1) → Lib.nDigits n ≤ k + 1 := by
      intro k
      induction k generalizing n with
      | zero => intro h; rw [Lib.nDigits]; split <;> omega
      | succ k ih =>
        intro hk
        by_cases h1 : n < 10
        · rw [Lib.nDigits_small h1]; omega
        · rw [Lib.nDigits_big h1]
          by_cases h2 : n / 10 < 10
          · rw [Lib.nDigits_small h2]; omega
          · have := ih (n := n / 10) (by omega) h2 (by rw [Nat.pow_succ] at hk; omega)
            omega
    exact this 9 (by omega)
def valI (s : List UInt8) : Int := if s.head? = some 45 then -(valD (s.drop 1) : Int) else (valD s : Int)
theorem itoa_head (n : Int) : (Lib.itoa n).head? = some 45 ↔ n < 0 := by
  unfold Lib.itoa
  split
  · rename_i h; simp [h]
  · rename_i h
    refine ⟨fun he => ?_, fun he => absurd he h⟩
    have hm : (45 : UInt8) ∈ Lib.decDigits n.toNat := List.mem_of_head? he
    have := dd_all _ _ hm
    exact absurd this (by decide)
theorem val_itoa (n : Int) : valI (Lib.itoa n) = n := by
  have hh := itoa_head n
  unfold valI
  by_cases h : n < 0
  · rw [if_pos (hh.2 h)]
    unfold Lib.itoa
    rw [if_pos h, List.drop_succ_cons, List.drop_zero, val_dd]
    omega
  · rw [if_neg (fun e => h (hh.1 e))]
    unfold Lib.itoa
    rw [if_neg h, val_dd]
    omega
theorem itoa_inj {n m : Int} (h : Lib.itoa n = Lib.itoa m) : n = m := by rw [← val_itoa n, h, val_itoa]
theorem itoa_ne (n : Int) : Lib.itoa n ≠ [] := by
  unfold Lib.itoa
  split
  · simp
  · exact dd_ne _
theorem itoa_byte (n : Int) : ∀ b ∈ Lib.itoa n, b = 45 ∨ 48 ≤ b.toNat ∧ b.toNat ≤ 57 := by
  unfold Lib.itoa
  split
  · intro b hb
    rcases List.mem_cons.1 hb with rfl | hb
    · exact .inl rfl
    · exact .inr (dd_all _ b hb)
  · exact fun b hb => .inr (dd_all _ b hb)
theorem itoa_len {n : Int} (h : inMost n) : (Lib.itoa n).length ≤ 11 := by
  unfold inMost most at h
  unfold Lib.itoa
  split
  · have := dd_len (n := n.natAbs) (by omega)
    simp only [List.length_cons]
    omega
  · have := dd_len (n := n.toNat) (by omega)
    omega
/-- the number of a text -/
def numO (s : List UInt8) : Option Int := if Lib.itoa (valI s) = s ∧ inMost (valI s) then some (valI s) else none
theorem numO_iff {s : List UInt8} {n : Int} : numO s = some n ↔ s = Lib.itoa n ∧ inMost n := by
  unfold numO
  constructor
  · intro h
    split at h
    · rename_i hc
      cases h
      exact ⟨hc.1.symm, hc.2⟩
    · cases h
  · rintro ⟨rfl, h⟩
    rw [val_itoa, if_pos ⟨rfl, h⟩]
theorem numO_ne {s : List UInt8} {n : Int} (h : numO s = some n) : s ≠ [] := by
  rw [(numO_iff.1 h).1]
  exact itoa_ne n
theorem numO_byte {s : List UInt8} {n : Int} (h : numO s = some n) : ∀ b ∈ s, b = 45 ∨ 48 ≤ b.toNat ∧ b.toNat ≤ 57 := by
  rw [(numO_iff.1 h).1]
  exact itoa_byte n

/-! digits to the base 16 -/
def halfS (c : UInt8) : Option Nat := if 48 ≤ c.toNat ∧ c.toNat ≤ 57 then some (c.toNat - 48) else if 97 ≤ c.toNat ∧ c.toNat ≤ 102 then some (c.toNat - 97 + 10) else none
theorem half_iff {c : UInt8} {n : Nat} : halfS c = some n ↔ n < 16 ∧ c = hexD n := by
  have key : ∀ c : Fin 256, ∀ n : Fin 16, (halfS (UInt8.ofNat c.val) = some n.val) = (UInt8.ofNat c.val = hexD n.val) := by decide +kernel
  have lt : ∀ {c : UInt8} {n : Nat}, halfS c = some n → n < 16 := by
    intro c n h
    unfold halfS at h
    split at h
    · cases h; omega
    · split at h
      · cases h; omega
      · cases h
  have hc : UInt8.ofNat c.toNat = c := UInt8.ofNat_toNat
  constructor
  · intro h
    have h16 := lt h
    have := key ⟨c.toNat, c.toNat_lt⟩ ⟨n, h16⟩
    simp only [hc] at this
    exact ⟨h16, this.mp h⟩
  · rintro ⟨h16, h⟩
    have := key ⟨c.toNat, c.toNat_lt⟩ ⟨n, h16⟩
    simp only [hc] at this
    exact this.mpr h
def pairS (a b : UInt8) : Option UInt8 := match halfS a, halfS b with
  | some x, some y => some (UInt8.ofNat (x * 16 + y))
  | _, _ => none
theorem pair_iff {a b x : UInt8} : pairS a b = some x ↔ [a, b] = hexB x := by
  unfold pairS hexB
  have hx := x.toNat_lt
  constructor
  · intro h
    split at h
    · rename_i p q hp hq
      cases h
      obtain ⟨h1, rfl⟩ := half_iff.1 hp
      obtain ⟨h2, rfl⟩ := half_iff.1 hq
      have : (UInt8.ofNat (p * 16 + q)).toNat = p * 16 + q := Nat.mod_eq_of_lt (by omega)
      rw [this, show (p * 16 + q) / 16 = p by omega, show (p * 16 + q) % 16 = q by omega]
    · cases h
  · intro h
    simp only [List.cons.injEq, and_true] at h
    rw [half_iff.2 ⟨show x.toNat / 16 < 16 by omega, h.1⟩, half_iff.2 ⟨show x.toNat % 16 < 16 by omega, h.2⟩]
    simp only [Option.some.injEq]
    rw [show x.toNat / 16 * 16 + x.toNat % 16 = x.toNat by omega]
    exact UInt8.ofNat_toNat
def unhexS : List UInt8 → Option (List UInt8)
  | [] => some []
  | [_] => none
  | a :: b :: t => match pairS a b with
    | none => none
    | some x => (unhexS t).map (x :: ·)
theorem unhex_iff : ∀ {s l : List UInt8}, unhexS s = some l ↔ s = hexS l
  | [], l => by
    cases l with
    | nil => simp [unhexS, hexS]
    | cons x l => simp [unhexS, hexS, hexB]
  | [a], l => by
    cases l with
    | nil => simp [unhexS, hexS]
    | cons x l => simp [unhexS, hexS, hexB]
  | a :: b :: t, l => by
    rw [unhexS]
    cases l with
    | nil =>
      refine ⟨fun h => ?_, fun h => by simp [hexS] at h⟩
      split at h
      · cases h
      · cases hu : unhexS t <;> rw [hu] at h <;> cases h
    | cons x l =>
      have ih := unhex_iff (s := t) (l := l)
      rw [show hexS (x :: l) = hexB x ++ hexS l from rfl]
      constructor
      · intro h
        split at h
        · cases h
        · rename_i y hy
          cases hu : unhexS t with
          | none => rw [hu] at h; cases h
          | some l' =>
            rw [hu] at h ih
            cases h
            rw [← ih.1 rfl, ← pair_iff.1 hy]
            rfl
      · intro h
        have h2 : a :: b :: t = [hexD (x.toNat / 16), hexD (x.toNat % 16)] ++ hexS l := h
        simp only [List.cons_append, List.nil_append, List.cons.injEq] at h2
        obtain ⟨ha, hb, ht⟩ := h2
        rw [pair_iff.2 (show [a, b] = hexB x by rw [ha, hb]; rfl)]
        dsimp only
        rw [ih.2 ht]
        rfl
theorem hexS_len (l : List UInt8) : (hexS l).length = 2 * l.length := by
  induction l with
  | nil => rfl
  | cons x l ih => rw [show hexS (x :: l) = hexB x ++ hexS l from rfl, List.length_append, ih]; simp [hexB]; omega
theorem hexD_byte : ∀ n, n < 16 → hexD n ≠ 32 ∧ hexD n ≠ 34 ∧ hexD n ≠ 10 := by decide
theorem hexS_byte (l : List UInt8) : ∀ b ∈ hexS l, b ≠ 32 ∧ b ≠ 34 ∧ b ≠ 10 := by
  intro b hb
  obtain ⟨x, _, hx⟩ := List.mem_flatMap.1 hb
  have := x.toNat_lt
  simp only [hexB, List.mem_cons, List.not_mem_nil, or_false] at hx
  rcases hx with rfl | rfl
  · exact hexD_byte _ (by omega)
  · exact hexD_byte _ (by omega)

/-! quoted -/
def unqS : List UInt8 → Option (List UInt8)
  | [] => some []
  | c :: t =>
    if c = 34 ∨ c.toNat < 32 ∨ 126 < c.toNat then none
    else if c ≠ 92 then (unqS t).map (c :: ·)
    else match t with
      | [] => none
      | d :: u =>
        if d = 34 ∨ d = 92 then (unqS u).map (d :: ·)
        else if d = 110 then (unqS u).map (10 :: ·)
        else if d = 120 then match u with
          | a :: b :: v => match pairS a b with
            | none => none
            | some x => if (32 ≤ x.toNat ∧ x.toNat ≤ 126) ∨ x = 10 then none else (unqS v).map (x :: ·)
          | _ => none
        else none
theorem unq_sound : ∀ (s l : List UInt8), unqS s = some l → s = l.flatMap quoB
  | [], l, h => by
    rw [unqS] at h
    cases h
    rfl
  | c :: t, l, h => by
    rw [unqS.eq_def] at h
    dsimp only at h
    split at h
    · cases h
    · rename_i h1
      split at h
      · rename_i h2
        cases hu : unqS t with
        | none => rw [hu] at h; cases h
        | some l' =>
          rw [hu] at h
          cases h
          have ih := unq_sound t l' hu
          rw [List.flatMap_cons, ← ih]
          have h34 : c ≠ 34 := fun e => h1 (.inl e)
          have h10 : c ≠ 10 := fun e => by subst e; exact h1 (.inr (.inl (by decide)))
          unfold quoB
          rw [if_neg (by simp [h34, h2]), if_neg h10, if_neg (by intro e; exact h1 (.inr e))]
          rfl
      · rename_i h2
        obtain rfl : c = 92 := by simpa using h2
        split at h
        · cases h
        · rename_i d u
          split at h
          · rename_i h3
            cases hu : unqS u with
            | none => rw [hu] at h; cases h
            | some l' =>
              rw [hu] at h
              cases h
              rw [List.flatMap_cons, ← unq_sound u l' hu]
              unfold quoB
              rw [if_pos h3]
              rfl
          · rename_i h3
            split at h
            · rename_i h4
              subst h4
              cases hu : unqS u with
              | none => rw [hu] at h; cases h
              | some l' =>
                rw [hu] at h
                cases h
                rw [List.flatMap_cons, ← unq_sound u l' hu]
                rfl
            · split at h
              · rename_i h5
                subst h5
                split at h
                · rename_i a b v
                  split at h
                  · cases h
                  · rename_i x hx
                    split at h
                    · cases h
                    · rename_i h6
                      cases hu : unqS v with
                      | none => rw [hu] at h; cases h
                      | some l' =>
                        rw [hu] at h
                        cases h
                        rw [List.flatMap_cons, ← unq_sound v l' hu]
                        unfold quoB
                        have e34 : x ≠ 34 := fun e => by subst e; exact h6 (.inl (by decide))
                        have e92 : x ≠ 92 := fun e => by subst e; exact h6 (.inl (by decide))
                        have e10 : x ≠ 10 := fun e => h6 (.inr e)
                        rw [if_neg (by simp [e34, e92]), if_neg e10, if_pos (by omega), ← pair_iff.1 hx]
                        rfl
                · cases h
              · cases h
theorem unq_full : ∀ l : List UInt8, unqS (l.flatMap quoB) = some l
  | [] => by rw [List.flatMap_nil, unqS]
  | c :: l => by
    have ih := unq_full l
    rw [List.flatMap_cons]
    obtain ⟨m, hm⟩ : ∃ m, l.flatMap quoB = m := ⟨_, rfl⟩
    rw [hm] at ih ⊢
    unfold quoB
    split
    · rename_i h
      show unqS (92 :: c :: m) = _
      rw [unqS.eq_def]
      dsimp only
      rw [if_neg (by decide), if_neg (by simp), if_pos h, ih]
      rfl
    · rename_i h
      split
      · rename_i h10
        subst h10
        show unqS (92 :: 110 :: m) = _
        rw [unqS.eq_def]
        dsimp only
        rw [if_neg (by decide), if_neg (by simp), if_neg (by decide), if_pos rfl, ih]
        rfl
      · rename_i h10
        split
        · rename_i hw
          have hp : pairS (hexD (c.toNat / 16)) (hexD (c.toNat % 16)) = some c := pair_iff.2 rfl
          show unqS (92 :: 120 :: hexD (c.toNat / 16) :: hexD (c.toNat % 16) :: m) = _
          rw [unqS.eq_def]
          dsimp only
          rw [if_neg (by decide), if_neg (by simp), if_neg (by decide), if_neg (by decide), if_pos rfl]
          rw [hp]
          dsimp only
          rw [if_neg (by rintro (e | e); omega; exact h10 e), ih]
          rfl
        · rename_i hw
          have e92 : c ≠ 92 := fun e => h (.inr e)
          have e34 : c ≠ 34 := fun e => h (.inl e)
          show unqS (c :: m) = _
          rw [unqS.eq_def]
          dsimp only
          rw [if_neg (by rintro (e | e); exact e34 e; exact hw e), if_pos e92, ih]
          rfl
theorem unq_iff {s l : List UInt8} : unqS s = some l ↔ s = l.flatMap quoB := ⟨unq_sound s l, fun h => by rw [h, unq_full]⟩
end Go.Proofs.YtdnicbbandbdbaaDoor
