/- Texts' tokens, in plain Lean: no program in sight. No condition. -/
import Derived.Test.YtbinaeemcidicaaGreatDoorZLS
import Derived.Lib.Index
set_option maxRecDepth 100000
set_option maxHeartbeats 16000000
namespace Go.Proofs.YtbinaeemcidicaaGreatDoor
open Go.PB Go.RowKit
def blB (c : UInt8) : Bool := (Nat.ble 9 c.toNat && Nat.ble c.toNat 13) || Nat.beq c.toNat 32
def dgB (c : UInt8) : Bool := Nat.ble 48 c.toNat && Nat.ble c.toNat 57
def leB (c : UInt8) : Bool := (Nat.ble 97 c.toNat && Nat.ble c.toNat 122) || (Nat.ble 65 c.toNat && Nat.ble c.toNat 90) || Nat.beq c.toNat 95
def woB (c : UInt8) : Bool := leB c || dgB c
theorem blB_iff {c : UInt8} : blB c = true ↔ (9 ≤ c.toNat ∧ c.toNat ≤ 13) ∨ c.toNat = 32 := by simp [blB, Nat.ble_eq]
theorem dgB_iff {c : UInt8} : dgB c = true ↔ 48 ≤ c.toNat ∧ c.toNat ≤ 57 := by simp [dgB, Nat.ble_eq]
theorem leB_iff {c : UInt8} : leB c = true ↔ (97 ≤ c.toNat ∧ c.toNat ≤ 122) ∨ (65 ≤ c.toNat ∧ c.toNat ≤ 90) ∨ c.toNat = 95 := by simp [leB, Nat.ble_eq, or_assoc]
def runN (p : UInt8 → Bool) : List UInt8 → Nat
 | [] => 0
 | c :: l => if p c = true then runN p l + 1 else 0
theorem runN_le (p : UInt8 → Bool) : ∀ l : List UInt8, runN p l ≤ l.length
 | [] => Nat.le_refl _
 | c :: l => by
  simp only [runN, List.length_cons]
  have := runN_le p l
  split <;> omega
theorem runN_all (p : UInt8 → Bool) : ∀ l : List UInt8, ∀ b ∈ l.take (runN p l), p b = true
 | [] => by simp
 | c :: l => by
  simp only [runN]
  split
  ·rename_i h
   intro b hb
   rw [List.take_succ_cons] at hb
   rcases List.mem_cons.1 hb with rfl | hb
   ·exact h
   ·exact runN_all p l b hb
  ·simp
theorem runN_stop (p : UInt8 → Bool) : ∀ l : List UInt8, runN p l < l.length → p (l.getD (runN p l) 0) = false
 | [], h => by simp at h
 | c :: l, h => by
  simp only [runN] at h ⊢
  split
  ·rename_i hc
   rw [if_pos hc] at h
   simp only [List.length_cons, Nat.add_lt_add_iff_right] at h
   simpa using runN_stop p l h
  ·rename_i hc
   simpa using hc
theorem runN_at (p : UInt8 → Bool) : ∀ (l : List UInt8) (k : Nat), k ≤ l.length → (∀ j, j < k → p (l.getD j 0) = true) → (k < l.length → p (l.getD k 0) = false) → runN p l = k
 | [], k, h, _, _ => by simp at h; simp [runN, h]
 | c :: l, 0, _, _, h => by
  have := h Zgh
  simp [runN] at this ⊢
  exact this
 | c :: l, k + 1, hk, h1, h2 => by
  have h0 := h1 0 Zf7
  simp only [List.getD_cons_zero] at h0
  simp only [runN, h0, if_true]
  rw [runN_at p l k (by simpa using hk) (fun j hj => by simpa using h1 (j + 1) Zf7) (fun hk' => by simpa using h2 (by simpa using hk'))]
def endN : List UInt8 → Option Nat
 | [] => none
 | c :: l => if c = 42 ∧ l.head? = some 47 then some 0 else (endN l).map (· + 1)
theorem endN_lt : ∀ {l : List UInt8} {k : Nat}, endN l = some k → k + 2 ≤ l.length
 | [], k, h => by simp [endN] at h
 | c :: l, k, h => by
  simp only [endN] at h
  split at h
  ·rename_i hc
   obtain rfl : 0 = k := by simpa using h
   cases l with
   | nil => simp at hc
   | cons d l => simp
  ·cases he : endN l with
   | none => rw [he] at h; simp at h
   | some j =>
    rw [he] at h
    obtain rfl : j + 1 = k := by simpa using h
    have := endN_lt he
    simp only [List.length_cons]
    omega
theorem index_end : ∀ l : List UInt8, Lib.index l [42, 47] = match endN l with | none => -1 | some k => (k : Int)
 | [] => rfl
 | c :: l => by
  have ih := index_end l
  have hp : ([42, 47] : List UInt8).isPrefixOf (c :: l) = true ↔ c = 42 ∧ l.head? = some 47 := by
   cases l with
   | nil => simp [List.isPrefixOf]
   | cons d l =>
    simp only [List.isPrefixOf, Bool.and_eq_true, beq_iff_eq, List.head?_cons, Option.some.injEq, and_true]
    exact ⟨fun ⟨a, b⟩ => ⟨a.symm, b.symm⟩, fun ⟨a, b⟩ => ⟨a.symm, b.symm⟩⟩
  simp only [Lib.index, endN]
  by_cases h : c = 42 ∧ l.head? = some 47
  ·rw [if_pos h, if_pos (hp.2 h)]
   rfl
  ·rw [if_neg h, if_neg (fun h' => h (hp.1 h')), ih]
   cases endN l with
   | none => rfl
   | some k =>
    have : ((k : Int) == -1) = false := by
     rw [beq_eq_false_iff_ne]
     omega
    simp [this]
def lineN (l : List UInt8) : Nat := runN (fun b => !(b.toNat == 10)) l
def up (n : Nat) (r : Nat × Bool) : Nat × Bool := (n + r.1, r.2)
theorem up_up (m n : Nat) (r : Nat × Bool) : up m (up n r) = up (m + n) r := by simp [up, Nat.add_assoc]
theorem up_zero (r : Nat × Bool) : up 0 r = r := by simp [up]
def skipF : Nat → List UInt8 → Nat × Bool
 | 0, _ => (0, true)
 | _ + 1, [] => (0, true)
 | f + 1, c :: t =>
  if blB c = true then up 1 (skipF f t)
  else if c = 47 ∧ t.head? = some 47 then up (lineN (c :: t)) (skipF f ((c :: t).drop (lineN (c :: t))))
  else if c = 47 ∧ t.head? = some 42 then
   match endN (t.drop 1) with
   | none => (0, false)
   | some n => up (n + 4) (skipF f ((c :: t).drop (n + 4)))
  else (0, true)
theorem lineN_pos {c : UInt8} {t : List UInt8} (h : c = 47) : 1 ≤ lineN (c :: t) := by
 subst h
 simp [lineN, runN]
theorem skipF_fuel : ∀ (f f' : Nat) (l : List UInt8), l.length < f → l.length < f' → skipF f l = skipF f' l
 | 0, _, _, h, _ => by omega
 | _, 0, _, _, h => by omega
 | f + 1, f' + 1, [], _, _ => rfl
 | f + 1, f' + 1, c :: t, h, h' => by
  simp only [List.length_cons] at h h'
  simp only [skipF]
  split
  ·rw [skipF_fuel f f' t Zf7 Zf7]
  ·split
   ·rename_i hc
    have := lineN_pos (t := t) hc.1
    rw [skipF_fuel f f' _ Zja Zja]
   ·split
    ·split
     ·rfl
     ·rw [skipF_fuel f f' _ Zja Zja]
    ·rfl
def skipS (l : List UInt8) : Nat × Bool := skipF (l.length + 1) l
theorem skip_nil : skipS [] = (0, true) := rfl
theorem skip_blank {c : UInt8} {t : List UInt8} (h : blB c = true) : skipS (c :: t) = up 1 (skipS t) := by
 unfold skipS
 rw [skipF, if_pos h]
 rfl
theorem bl47 : blB 47 = false := by decide
theorem skip_line {t : List UInt8} (h : t.head? = some 47) : skipS (47 :: t) = up (lineN (47 :: t)) (skipS ((47 :: t).drop (lineN (47 :: t)))) := by
 unfold skipS
 rw [skipF, if_neg (by simp [bl47]), if_pos ⟨rfl, h⟩]
 have := lineN_pos (t := t) (c := 47) rfl
 rw [skipF_fuel _ (((47 :: t).drop (lineN (47 :: t))).length + 1) _ Zja Zf7]
theorem skip_block {t : List UInt8} {n : Nat} (h : t.head? = some 42) (he : endN (t.drop 1) = some n) : skipS (47 :: t) = up (n + 4) (skipS ((47 :: t).drop (n + 4))) := by
 unfold skipS
 rw [skipF, if_neg (by simp [bl47]), if_neg (by rw [h]; simp), if_pos ⟨rfl, h⟩, he]
 simp only
 rw [skipF_fuel _ (((47 :: t).drop (n + 4)).length + 1) _ Zja Zf7]
theorem skip_open {t : List UInt8} (h : t.head? = some 42) (he : endN (t.drop 1) = none) : skipS (47 :: t) = (0, false) := by
 unfold skipS
 rw [skipF, if_neg (by simp [bl47]), if_neg (by rw [h]; simp), if_pos ⟨rfl, h⟩, he]
theorem skip_stop {c : UInt8} {t : List UInt8} (h : blB c = false) (hc : ¬(c = 47 ∧ (t.head? = some 47 ∨ t.head? = some 42))) : skipS (c :: t) = (0, true) := by
 unfold skipS
 rw [skipF, if_neg (by simp [h]), if_neg (fun h => hc ⟨h.1, .inl h.2⟩), if_neg (fun h => hc ⟨h.1, .inr h.2⟩)]
theorem skip_run : ∀ l : List UInt8, skipS l = up (runN blB l) (skipS (l.drop (runN blB l)))
 | [] => rfl
 | c :: t => by
  simp only [runN]
  split
  ·rename_i h
   rw [skip_blank h, skip_run t, up_up, List.drop_succ_cons, Nat.add_comm 1]
  ·rw [up_zero, List.drop_zero]
theorem skipF_le : ∀ (f : Nat) (l : List UInt8), (skipF f l).1 ≤ l.length
 | 0, _ => by simp [skipF]
 | f + 1, [] => by simp [skipF]
 | f + 1, c :: t => by
  simp only [skipF]
  split
  ·have := skipF_le f t
   simp only [up, List.length_cons]
   omega
  ·split
   ·have := skipF_le f ((c :: t).drop (lineN (c :: t)))
    have h2 := runN_le (fun b => !(b.toNat == 10)) (c :: t)
    simp only [up, List.length_drop, lineN] at *
    omega
   ·split
    ·rename_i h1 _ hc
     split
     ·simp
     ·rename_i n he
      have h3 := endN_lt he
      have h4 := skipF_le f ((c :: t).drop (n + 4))
      simp only [up, List.length_drop, List.length_cons] at *
      omega
    ·simp
theorem skip_le (l : List UInt8) : (skipS l).1 ≤ l.length := skipF_le _ l
structure Tq where
 e : Int
 k : Int
 m : Nat
 x : Int
def numN (l : List UInt8) : Nat := if l.getD (runN dgB l) 0 = 46 then runN dgB l + 1 + runN dgB (l.drop (runN dgB l + 1)) else runN dgB l
def numP (l : List UInt8) : Prop := l.getD (runN dgB l) 0 = 46
instance (l : List UInt8) : Decidable (numP l) := by unfold numP; infer_instance
def numS (l : List UInt8) : Tq :=
 if leB (l.getD (numN l) 0) = true ∨ l.getD (numN l) 0 = 46 then ⟨200, 0, 0, 0⟩
 else if ¬numP l ∧ 1 < numN l ∧ l.getD 0 0 = 48 then ⟨200, 0, 0, 0⟩
 else if numP l then ⟨(parseS (l.take (numN l))).2, 3, numN l, (parseS (l.take (numN l))).1⟩
 else if 32767 < wholeS 32768 (l.take (numN l)) then ⟨120, 0, 0, 0⟩
 else ⟨0, 2, numN l, ofS (wholeS 32768 (l.take (numN l)))⟩
def signN (c d : UInt8) : Nat :=
 if c = 61 ∨ c = 33 ∨ c = 60 ∨ c = 62 ∨ c = 42 ∨ c = 47 then (if d = 61 then 2 else 1)
 else if c = 43 ∨ c = 45 then (if d = 61 ∨ d = c then 2 else 1)
 else if c = 38 ∨ c = 124 then (if d = c then 2 else 0)
 else if c = 40 ∨ c = 41 ∨ c = 91 ∨ c = 93 ∨ c = 123 ∨ c = 125 ∨ c = 46 ∨ c = 44 ∨ c = 59 ∨ c = 58 ∨ c = 63 ∨ c = 35 then 1
 else 0
def tokS (l : List UInt8) : Tq :=
 if leB (l.getD 0 0) = true then (if 32 < runN woB l then ⟨3, 0, 0, 0⟩ else ⟨0, 1, runN woB l, 0⟩)
 else if dgB (l.getD 0 0) = true ∨ (l.getD 0 0 = 46 ∧ dgB (l.getD 1 0) = true) then numS l
 else if signN (l.getD 0 0) (l.getD 1 0) = 0 then ⟨200, 0, 0, 0⟩
 else ⟨0, 4, signN (l.getD 0 0) (l.getD 1 0), 0⟩
structure Tk where
 k : Int
 t : List UInt8
 x : Int
 at_ : Nat
 ln : Nat
def nlN (l : List UInt8) : Nat := l.count 10
def tkAt (s : List UInt8) (q : Nat) : Tk := ⟨(tokS (s.drop q)).k, (s.drop q).take (tokS (s.drop q)).m, (tokS (s.drop q)).x, q, nlN (s.take q)⟩
def errAt (s : List UInt8) (q n : Nat) : Int := if ((tokS (s.drop q)).e = 0 ∨ (tokS (s.drop q)).e = 120) ∧ n = 2048 then 3 else (tokS (s.drop q)).e
def lexF (s : List UInt8) : Nat → Nat → List Tk → List Tk × Int × Nat
 | 0, _, acc => (acc, 0, 0)
 | f + 1, i, acc =>
  if (skipS (s.drop i)).2 = false then ([], 200, i + (skipS (s.drop i)).1)
  else if i + (skipS (s.drop i)).1 = s.length then (acc, 0, 0)
  else if errAt s (i + (skipS (s.drop i)).1) acc.length ≠ 0 then ([], errAt s (i + (skipS (s.drop i)).1) acc.length, i + (skipS (s.drop i)).1)
  else lexF s f (i + (skipS (s.drop i)).1 + (tokS (s.drop (i + (skipS (s.drop i)).1))).m) (acc ++ [tkAt s (i + (skipS (s.drop i)).1)])
def lexS (s : List UInt8) : List Tk × Int × Nat := if 8192 < s.length then ([], 3, 0) else lexF s (s.length + 1) 0 []
theorem numN_le (l : List UInt8) : numN l ≤ l.length := by
 unfold numN
 have h1 := runN_le dgB l
 split
 ·rename_i h
  have h2 := runN_le dgB (l.drop (runN dgB l + 1))
  have : runN dgB l < l.length := by
   refine Nat.lt_of_not_le fun hle => ?_
   simp [List.getD, List.getElem?_eq_none hle] at h
  simp only [List.length_drop] at h2
  omega
 ·exact h1
theorem getD_len {l : List UInt8} {i : Nat} (h : l.getD i 0 ≠ 0) : i < l.length := Nat.lt_of_not_le fun hle => h (by simp [List.getD, List.getElem?_eq_none hle])
theorem numN_pos {l : List UInt8} (h : dgB (l.getD 0 0) = true ∨ (l.getD 0 0 = 46 ∧ dgB (l.getD 1 0) = true)) : 1 ≤ numN l := by
 unfold numN
 rcases h with h | h
 ·cases l with
  | nil => cases h
  | cons c l =>
   simp only [List.getD_cons_zero] at h
   simp only [runN, h, if_true]
   split <;> omega
 ·split
  ·omega
  ·rename_i hn
   cases l with
   | nil => cases h.1
   | cons c l =>
    simp only [List.getD_cons_zero] at h
    have : runN dgB (c :: l) = 0 := by rw [h.1]; rfl
    rw [this] at hn
    exact absurd h.1 (by simpa using hn)
theorem signN_le (c d : UInt8) : signN c d ≤ 2 := by
 unfold signN
 repeat' split
 all_goals omega
theorem signN_end (c : UInt8) : signN c 0 ≤ 1 := by
 unfold signN
 split
 ·simp
 ·split
  ·rename_i h
   rcases h with rfl | rfl <;> decide
  ·split
   ·rename_i h
    rcases h with rfl | rfl <;> decide
   ·split <;> omega
theorem tok_m (l : List UInt8) : (tokS l).m ≤ l.length ∧ ((tokS l).e = 0 → 1 ≤ (tokS l).m) := by
 unfold tokS
 split
 ·rename_i h
  split
  ·simp
  ·refine ⟨runN_le _ _, fun _ => ?_⟩
   cases l with
   | nil => cases h
   | cons c l =>
    simp only [List.getD_cons_zero] at h
    simp only [runN, woB, h, Bool.true_or, if_true]
    omega
 ·split
  ·rename_i h
   have h1 := numN_le l
   have h2 := numN_pos h
   unfold numS
   split
   ·simp
   ·split
    ·simp
    ·split
     ·exact ⟨h1, fun _ => h2⟩
     ·split
      ·simp
      ·exact ⟨h1, fun _ => h2⟩
  ·split
   ·simp
   ·rename_i h
    refine ⟨?_, fun _ => by simp only; omega⟩
    simp only
    cases l with
    | nil => exact absurd rfl h
    | cons c l =>
     cases l with
     | nil =>
      simp only [List.getD_cons_zero, List.getD_cons_succ, List.getD_nil, List.length_cons, List.length_nil]
      exact signN_end c
     | cons d l =>
      simp only [List.getD_cons_zero, List.getD_cons_succ, List.length_cons]
      have := signN_le c d
      omega
theorem err_tok {s : List UInt8} {q n : Nat} (h : errAt s q n = 0) : (tokS (s.drop q)).e = 0 := by
 unfold errAt at h
 split at h
 ·cases h
 ·exact h
theorem lexF_fuel (s : List UInt8) : ∀ (f f' i : Nat) (acc : List Tk), s.length < f + i → s.length < f' + i → i ≤ s.length → lexF s f i acc = lexF s f' i acc
 | 0, _, i, _, h, _, h' => by omega
 | _, 0, i, _, _, h, h' => by omega
 | f + 1, f' + 1, i, acc, h, h', hi => by
  simp only [lexF]
  split
  ·rfl
  ·split
   ·rfl
   ·split
    ·rfl
    ·rename_i he
     have he := err_tok (Decidable.not_not.1 he)
     have h1 := skip_le (s.drop i)
     obtain ⟨h2, h3⟩ := tok_m (s.drop (i + (skipS (s.drop i)).1))
     have h3 := h3 he
     simp only [List.length_drop] at h1 h2
     exact lexF_fuel s f f' _ _ Zf7 Zf7 Zf7
def lexR (s : List UInt8) (i : Nat) (acc : List Tk) : List Tk × Int × Nat := lexF s (s.length + 1) i acc
theorem lexR_eq (s : List UInt8) (i : Nat) (acc : List Tk) (_ : i ≤ s.length) : lexR s i acc =
  if (skipS (s.drop i)).2 = false then ([], 200, i + (skipS (s.drop i)).1)
  else if i + (skipS (s.drop i)).1 = s.length then (acc, 0, 0)
  else if errAt s (i + (skipS (s.drop i)).1) acc.length ≠ 0 then ([], errAt s (i + (skipS (s.drop i)).1) acc.length, i + (skipS (s.drop i)).1)
  else lexR s (i + (skipS (s.drop i)).1 + (tokS (s.drop (i + (skipS (s.drop i)).1))).m) (acc ++ [tkAt s (i + (skipS (s.drop i)).1)]) := by
 unfold lexR
 rw [lexF]
 split
 ·rfl
 ·split
  ·rfl
  ·split
   ·rfl
   ·rename_i he
    have he := err_tok (Decidable.not_not.1 he)
    have h1 := skip_le (s.drop i)
    obtain ⟨h2, h3⟩ := tok_m (s.drop (i + (skipS (s.drop i)).1))
    have h3 := h3 he
    simp only [List.length_drop] at h1 h2
    exact lexF_fuel s _ _ _ _ Zf7 Zf7 Zf7
theorem lexS_eq {s : List UInt8} (h : s.length ≤ 8192) : lexS s = lexR s 0 [] := by
 unfold lexS
 rw [if_neg Zf7]
 rfl
attribute [irreducible] skipS tokS numS lexS lexR
end Go.Proofs.YtbinaeemcidicaaGreatDoor
namespace Go.Proofs.YtbinaeemcidicaaGreatDoor
open Go.PB Go.RowKit
attribute [local irreducible] Go.Calls
abbrev by8 (c : UInt8) : Value := .int .u8 (c.toNat : Int)
abbrev fnv (f : Nat) : Value := .func (.func f) #[] #[]
theorem or_low : ∀ n : Nat, n < 256 → IntKind.u8.wrap ((BitVec.ofInt IntKind.u8.bits (n : Int) ||| BitVec.ofInt IntKind.u8.bits 32).toNat : Int) = ((n ||| 32 : Nat) : Int) := by decide +kernel
theorem low_letter : ∀ n : Nat, n < 256 → ((97 ≤ (n ||| 32) ∧ (n ||| 32) ≤ 122) ↔ (97 ≤ n ∧ n ≤ 122) ∨ (65 ≤ n ∧ n ≤ 90)) := by decide +kernel
theorem blank_ok (c : UInt8) (w : World) : Calls Tryz.prog 42 #[by8 c] w (Give (.bool (blB c)) w) := by
 refine give_of_W (vs := [by8 c]) Tryz.func42 rfl Tryz.ntmps42 (Nat.le_of_ble_eq_true rfl) (St.nil w _) ?_
 simp only [argL]
 repeat' (first | (apply gL; first | (apply Wl.ev rfl rfl; exact Zev) | apply Wl.nil | (refine Zbr ?_) | ((fail_if_success (apply Wl.chk rfl)); refine Wl.split rfl rfl ?_ ?_ <;> (intro h; try exact Zg))) | (apply lW; first | apply W.seq | apply W.region | (refine Zba ?_; intro w hs)))
 all_goals exact ret_eq hs (congrArg Value.bool (Bool.eq_iff_iff.2 (by simp only [decide_eq_true_eq, true_iff, blB_iff]; omega)))
theorem digit_ok (c : UInt8) (w : World) : Calls Tryz.prog 48 #[by8 c] w (Give (.bool (dgB c)) w) := by
 refine give_of_W (vs := [by8 c]) Tryz.func48 rfl Tryz.ntmps48 (Nat.le_of_ble_eq_true rfl) (St.nil w _) ?_
 simp only [argL]
 repeat' (first | (apply gL; first | (apply Wl.ev rfl rfl; exact Zev) | apply Wl.nil | (refine Zbr ?_) | ((fail_if_success (apply Wl.chk rfl)); refine Wl.split rfl rfl ?_ ?_ <;> (intro h; try exact Zg))) | (apply lW; first | apply W.seq | apply W.region | (refine Zba ?_; intro w hs)))
 all_goals exact ret_eq hs (congrArg Value.bool (Bool.eq_iff_iff.2 (by simp only [decide_eq_true_eq, Bool.false_eq_true, false_iff, dgB_iff]; omega)))
theorem letter_ok (c : UInt8) (w : World) : Calls Tryz.prog 46 #[by8 c] w (Give (.bool (leB c)) w) := by
 refine give_of_W (vs := [by8 c]) Tryz.func46 rfl Tryz.ntmps46 (Nat.le_of_ble_eq_true rfl) (St.nil w _) ?_
 simp only [argL]
 have hc : c.toNat < 256 := c.toNat_lt
 have hl := low_letter c.toNat hc
 obtain ⟨v, hv⟩ : ∃ v, c.toNat ||| 32 = v := ⟨_, rfl⟩
 rw [hv] at hl
 repeat' (first | (apply gL; first | (apply Wl.ev rfl rfl; (focus (first | (apply gBin; first | exact (ev_or rfl rfl).to (show _ = Value.int .u8 (v : Int) from congrArg (Value.int .u8) (by rw [or_low _ hc, hv]))) | exact Zev))) | apply Wl.nil | (refine Zbr ?_) | ((fail_if_success (apply Wl.chk rfl)); refine Wl.split rfl rfl ?_ ?_ <;> (intro h; try exact Zg))) | (apply lW; first | apply W.seq | apply W.region | (refine Zba ?_; intro w hs)))
 all_goals exact ret_eq hs (congrArg Value.bool (Bool.eq_iff_iff.2 (by simp only [decide_eq_true_eq, true_iff, leB_iff]; omega)))
theorem word_ok (c : UInt8) (w : World) : Calls Tryz.prog 47 #[by8 c] w (Give (.bool (woB c)) w) := by
 refine give_of_W (vs := [by8 c]) Tryz.func47 rfl Tryz.ntmps47 (Nat.le_of_ble_eq_true rfl) (St.nil w _) ?_
 simp only [argL]
 repeat' (first | (apply gL; first | (apply Wl.ev rfl rfl; exact Zev) | (refine lD 46 ?_; refine wl_call0 rfl rfl has46 rfl (fun w _ => letter_ok c w) ?_) | (refine lD 48 ?_; refine wl_call0 rfl rfl has48 rfl (fun w _ => digit_ok c w) ?_) | apply Wl.nil | (refine Zbr ?_) | ((fail_if_success (apply Wl.chk rfl)); refine Wl.splitB rfl rfl ?_ ?_ <;> (intro h; try exact Zca))) | (apply lW; first | apply W.seq | apply W.region | (refine Zba ?_; intro w hs)))
 all_goals exact ret_eq hs (congrArg Value.bool (by simp [woB, h]))
theorem getB {l : List UInt8} {i : Nat} {x : Int} (h : x = i) : Value.int .u8 ((l.getD x.toNat 0).toNat : Int) = by8 (l.getD i 0) := by subst h; rfl
theorem run_ok (p : UInt8 → Bool) (f : Nat) (hh : Has Tryz.prog f) (hp : ∀ c w, Calls Tryz.prog f #[by8 c] w (Give (.bool (p c)) w)) (l : List UInt8) (hl : l.length < 4611686018427387904) (w : World) :
  Calls Tryz.prog 41 #[st l, fnv f] w (Give (.int .i64 (runN p l : Nat)) w) := by
 refine give_of_W (vs := [st l, fnv f]) Tryz.func41 rfl Tryz.ntmps41 (Nat.le_of_ble_eq_true rfl) (St.nil w _) ?_
 simp only [argL, Nat.zero_add]
 repeat' (first | (apply gL; first | (apply Wl.ev rfl rfl; exact Zev) | apply Wl.nil) | (apply lW; first | apply W.seq | apply W.region | apply W.block))
 refine W.loop (X := Nat) (fun i => [(0, st l), (1, fnv f), (7, .int .i64 (l.length : Nat)), (8, .int .i64 (i : Nat))]) (fun _ => [])
  (fun i => i ≤ l.length ∧ ∀ j, j < i → p (l.getD j 0) = true) (fun i => l.length - i) 0 ⟨Nat.zero_le _, fun _ h => absurd h (Nat.not_lt_zero _)⟩ Zn Ze ?_
 rintro i ⟨hi, hall⟩
 by_cases hlt : i < l.length
 ·cases hpi : p (l.getD i 0) with
  | true =>
   repeat' (first | (apply gL; first | (apply Wl.ev rfl rfl; exact Zez) | (refine wl_callF rfl rfl hh rfl rfl (fun w _ => Give.to (hp (l.getD i 0) w) (congrArg Value.bool hpi)) ?_) | apply Wl.nil) | (apply lW; first | apply W.seq | (refine W.again (i + 1) ?_ ?_ Zn Ze) | apply W.region | apply W.block | apply W.blk | apply W.skip | (refine Zbg ?_) | (refine Zz ?_ ?_ <;> (intro h; try exact Zg))))
   ·refine ⟨hlt, fun j hj => ?_⟩
    rcases Nat.lt_or_ge j i with h | h
    ·exact hall j h
    ·rw [show j = i by omega]; exact hpi
   ·omega
  | false =>
   repeat' (first | (apply gL; first | (apply Wl.ev rfl rfl; exact Zez) | (refine wl_callF rfl rfl hh rfl rfl (fun w _ => Give.to (hp (l.getD i 0) w) (congrArg Value.bool hpi)) ?_) | apply Wl.nil) | (apply lW; first | apply W.seq | apply W.region | apply W.block | apply W.skip | (refine Zbk ?_) | (refine Zz ?_ ?_ <;> (intro h; try exact Zg)) | (refine Zba ?_; intro w hs)))
   exact ret_eq hs (by rw [runN_at p l i hi hall (fun _ => hpi)])
 ·obtain rfl : i = l.length := by omega
  repeat' (first | (apply gL; first | (apply Wl.ev rfl rfl; exact Zev) | apply Wl.nil) | (apply lW; first | apply W.seq | apply W.region | (refine Zcm ?_) | (refine Zz ?_ ?_ <;> (intro h; try exact Zg)) | (refine Zba ?_; intro w hs)))
  exact ret_eq hs (by rw [runN_at p l l.length (Nat.le_refl _) hall (fun h => absurd h (Nat.lt_irrefl _))])
abbrev rdr (s : List UInt8) (i ln : Nat) : Obj := row [st s, .int .i64 (i : Nat), .int .i64 (ln : Nat)] 65
abbrev ptr (b : Nat) : Value := .pointer (some ⟨b, 0, none⟩)
theorem peek_ok {s : List UInt8} {i ln b : Nat} (hl : s.length ≤ 1000000) (hi : i ≤ s.length) (n : Nat) (hn : n ≤ 1000000) (w : World) (hr : w.heap[b]? = some (rdr s i ln)) :
  Calls Tryz.prog 43 #[ptr b, .int .i64 (n : Nat)] w (Give (by8 ((s.drop i).getD n 0)) w) := by
 refine give_of_W (vs := [ptr b, .int .i64 (n : Nat)]) Tryz.func43 rfl Tryz.ntmps43 (Nat.le_of_ble_eq_true rfl) (St.read hr []) ?_
 simp only [argL, Nat.zero_add]
 by_cases hlt : i + n < s.length
 ·repeat' (first | (apply gL; first | (apply Wl.ev rfl rfl; exact Zep) | apply Wl.nil) | (apply gQ; first | (apply Wq.ev rfl rfl; exact Zep) | apply Wq.nil) | (apply lW; first | apply W.seq | (refine Zgf ?_) | apply W.region | (refine Zz ?_ ?_ <;> (intro h; try exact Zg)) | (refine Zba ?_; intro w hs)))
  exact ret_eq hs (by simp [List.getD, List.getElem?_drop])
 ·repeat' (first | (apply gL; first | (apply Wl.ev rfl rfl; exact Zev) | apply Wl.nil) | (apply gQ; first | (apply Wq.ev rfl rfl; exact Zev) | apply Wq.nil) | (apply lW; first | apply W.seq | (refine Zgf ?_) | apply W.region | apply W.skip | (refine Zz ?_ ?_ <;> (intro h; try exact Zg)) | (refine Zba ?_; intro w hs)))
  exact ret_eq hs (by simp [List.getD, List.getElem?_drop, List.getElem?_eq_none (Nat.le_of_not_lt hlt)])
theorem ctb : CtB Tryz.prog 89 := ⟨_, Tryz.func89, by kernel_rfl, by kernel_rfl, by kernel_rfl, by kernel_rfl⟩
theorem count_ok (l : List UInt8) (c : UInt8) (w : World) : Calls Tryz.prog 51 #[st l, st [c]] w (Give (.int .i64 (l.count c : Nat)) w) := by
 refine give_of_W (vs := [st l, st [c]]) Tryz.func51 rfl Tryz.ntmps51 (Nat.le_of_ble_eq_true rfl) (St.nil w _) ?_
 simp only [argL, Nat.zero_add]
 repeat' (first | (apply gL; first | (apply Wl.ev rfl rfl; (focus (first | exact ev_countByte ctb rfl rfl | (apply gIdx; first | exact (ev_index_string (strT rfl) rfl rfl Zgh).to (show _ = by8 c from rfl)) | exact Zev))) | apply Wl.nil) | (apply lW; first | apply W.seq | apply W.region | apply W.skip | (refine Zbk ?_) | (refine Zbg ?_) | (refine Zba ?_; intro w hs)))
 exact ret_eq hs (by simp [Lib.countByte])
end Go.Proofs.YtbinaeemcidicaaGreatDoor
namespace Go.Proofs.YtbinaeemcidicaaGreatDoor
open Go.PB Go.RowKit
attribute [local irreducible] Go.Calls
theorem skipm_ok {s : List UInt8} {i ln b : Nat} (hl : s.length ≤ 1000000) (hln : ln ≤ 1000000) (n : Nat) (hn : i + n ≤ s.length) (w : World) (hr : w.heap[b]? = some (rdr s i ln)) :
  Calls Tryz.prog 24 #[ptr b, .int .i64 (n : Nat)] w (GiveT (.tuple #[]) b (rdr s (i + n) (ln + nlN ((s.take (i + n)).drop i))) w) := by
 refine giveT_of_W (vs := [ptr b, .int .i64 (n : Nat)]) Tryz.func24 rfl Tryz.ntmps24 (Nat.le_of_ble_eq_true rfl) (St.turnable hr) ?_
 simp only [argL, Nat.zero_add]
 have hcnt : nlN ((s.take (i + n)).drop i) ≤ 1000000 := by
  have : nlN ((s.take (i + n)).drop i) ≤ ((s.take (i + n)).drop i).length := List.count_le_length
  simp only [List.length_drop, List.length_take] at this
  omega
 have e1 : ∀ x : Int, x = (i : Int) + (n : Int) → (Value.int .i64 x) = .int .i64 ((i + n : Nat) : Int) := fun x hx => by subst hx; rfl
 obtain ⟨K, hK⟩ : ∃ K, nlN ((s.take (i + n)).drop i) = K := ⟨_, rfl⟩
 rw [hK] at hcnt ⊢
 repeat' (first | (apply gL; first | (apply Wl.ev rfl rfl; exact Zdz) | apply Wl.nil | (refine Zf9 ?_; try simp only [List.set])) | (apply gQ; first | (apply Wq.ev rfl rfl; exact Zdz) | ((show Wq _ _ (Qt _ _ _ _) _ _ _ _ [] _ _); apply Wq.tail) | (refine qD 51 ?_; refine Wq.call0 rfl rfl has51 rfl (fun w _ => Give.to (count_ok ((s.take (i + n)).drop i) 10 w) (congrArg (fun k : Nat => Value.int .i64 (k : Int)) hK)) ?_)) | (apply lW; first | apply W.seq | (refine W.regionT 23 mixed Zj rfl rfl ?_) | apply W.region | (refine Zdl ?_; intro w hs)))
 exact retT hs (lt_of_get hr) (List.Mem.head _) rfl
theorem signN_int (c d : UInt8) : (signN c d : Int) = if (c.toNat : Int) = 61 ∨ (c.toNat : Int) = 33 ∨ (c.toNat : Int) = 60 ∨ (c.toNat : Int) = 62 ∨ (c.toNat : Int) = 42 ∨ (c.toNat : Int) = 47 then (if (d.toNat : Int) = 61 then 2 else 1)
  else if (c.toNat : Int) = 43 ∨ (c.toNat : Int) = 45 then (if (d.toNat : Int) = 61 ∨ (d.toNat : Int) = c.toNat then 2 else 1)
  else if (c.toNat : Int) = 38 ∨ (c.toNat : Int) = 124 then (if (d.toNat : Int) = c.toNat then 2 else 0)
  else if (c.toNat : Int) = 40 ∨ (c.toNat : Int) = 41 ∨ (c.toNat : Int) = 91 ∨ (c.toNat : Int) = 93 ∨ (c.toNat : Int) = 123 ∨ (c.toNat : Int) = 125 ∨ (c.toNat : Int) = 46 ∨ (c.toNat : Int) = 44 ∨ (c.toNat : Int) = 59 ∨ (c.toNat : Int) = 58 ∨ (c.toNat : Int) = 63 ∨ (c.toNat : Int) = 35 then 1
  else 0 := by
 have e : ∀ a b : UInt8, a = b ↔ (a.toNat : Int) = b.toNat := fun a b => by rw [← UInt8.toNat_inj]; omega
 unfold signN
 simp only [e]
 simp only [show ((61 : UInt8).toNat : Int) = 61 from rfl, show ((33 : UInt8).toNat : Int) = 33 from rfl, show ((60 : UInt8).toNat : Int) = 60 from rfl, show ((62 : UInt8).toNat : Int) = 62 from rfl, show ((42 : UInt8).toNat : Int) = 42 from rfl, show ((47 : UInt8).toNat : Int) = 47 from rfl,
  show ((43 : UInt8).toNat : Int) = 43 from rfl, show ((45 : UInt8).toNat : Int) = 45 from rfl, show ((38 : UInt8).toNat : Int) = 38 from rfl, show ((124 : UInt8).toNat : Int) = 124 from rfl, show ((40 : UInt8).toNat : Int) = 40 from rfl, show ((41 : UInt8).toNat : Int) = 41 from rfl,
  show ((91 : UInt8).toNat : Int) = 91 from rfl, show ((93 : UInt8).toNat : Int) = 93 from rfl, show ((123 : UInt8).toNat : Int) = 123 from rfl, show ((125 : UInt8).toNat : Int) = 125 from rfl, show ((46 : UInt8).toNat : Int) = 46 from rfl, show ((44 : UInt8).toNat : Int) = 44 from rfl,
  show ((59 : UInt8).toNat : Int) = 59 from rfl, show ((58 : UInt8).toNat : Int) = 58 from rfl, show ((63 : UInt8).toNat : Int) = 63 from rfl, show ((35 : UInt8).toNat : Int) = 35 from rfl]
 repeat' split
 all_goals rfl
theorem sign_ok {s : List UInt8} {i ln b : Nat} (hl : s.length ≤ 1000000) (hi : i ≤ s.length) (w : World) (hr : w.heap[b]? = some (rdr s i ln)) :
  Calls Tryz.prog 50 #[ptr b] w (Give (.int .i64 (signN ((s.drop i).getD 0 0) ((s.drop i).getD 1 0) : Nat)) w) := by
 refine give_of_W (vs := [ptr b]) Tryz.func50 rfl Tryz.ntmps50 (Nat.le_of_ble_eq_true rfl) (St.read hr []) ?_
 simp only [argL]
 have p0 : ∀ w : World, w.heap[b]? = some (rdr s i ln) → Calls Tryz.prog 43 #[ptr b, .int .i64 (0 : Int)] w (Give (by8 ((s.drop i).getD 0 0)) w) := fun w h => peek_ok hl hi 0 Zf7 w h
 have p1 : ∀ w : World, w.heap[b]? = some (rdr s i ln) → Calls Tryz.prog 43 #[ptr b, .int .i64 (1 : Int)] w (Give (by8 ((s.drop i).getD 1 0)) w) := fun w h => peek_ok hl hi 1 Zf7 w h
 rw [signN_int]
 obtain ⟨C, hC⟩ : ∃ C, (s.drop i).getD 0 0 = C := ⟨_, rfl⟩
 obtain ⟨D, hD⟩ : ∃ D, (s.drop i).getD 1 0 = D := ⟨_, rfl⟩
 rw [hC] at p0
 rw [hD] at p1
 rw [hC, hD]
 obtain ⟨c, hc⟩ : ∃ c : Int, (C.toNat : Int) = c := ⟨_, rfl⟩
 obtain ⟨d, hd⟩ : ∃ d : Int, (D.toNat : Int) = d := ⟨_, rfl⟩
 unfold by8 at p0 p1
 rw [hc] at p0
 rw [hd] at p1
 rw [hc, hd]
 repeat' (first | (apply gL; first | (apply Wl.ev rfl rfl; exact Zev) | (refine lD 43 ?_; first | (refine Zgk ?_) | (refine Zgl ?_)) | apply Wl.nil | (refine Zbr ?_) | ((fail_if_success (apply Wl.chk rfl)); refine Wl.split rfl rfl ?_ ?_ <;> (intro h; try exact Zg))) | (apply lW; first | apply W.seq | apply W.region | apply W.block | apply W.blk | apply W.skip | (refine Zbk ?_) | (refine Zz ?_ ?_ <;> (intro h; try exact Zg)) | (refine Zba ?_; intro w hs)))
 all_goals exact ret_eq hs (congrArg (Value.int .i64) (by simp_all))
end Go.Proofs.YtbinaeemcidicaaGreatDoor
