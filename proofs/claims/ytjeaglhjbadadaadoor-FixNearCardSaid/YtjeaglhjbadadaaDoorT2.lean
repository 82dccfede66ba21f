/- Walks of functions of this seat, and what they compute: lemmas for the proofs of its statements. No condition. -/
import Derived.Test.YtjeaglhjbadadaaDoorT1
namespace Go.Proofs.YtjeaglhjbadadaaDoor
open Go.PB Go.RowKit
/-- five decimal digits -/
def pad5 (k : Nat) : List UInt8 := [UInt8.ofNat (48 + k / 10000), UInt8.ofNat (48 + k / 1000 % 10), UInt8.ofNat (48 + k / 100 % 10), UInt8.ofNat (48 + k / 10 % 10), UInt8.ofNat (48 + k % 10)]
theorem dd_step {k : Nat} (h : ¬k < 10) : Lib.decDigits k = Lib.decDigits (k / 10) ++ [UInt8.ofNat (48 + k % 10)] := by rw [Lib.decDigits, dif_neg h]
theorem dd6 (k : Nat) (h : k < 100000) : Lib.decDigits (100000 + k) = 49 :: pad5 k := by
  rw [dd_step (by omega), dd_step (by omega), dd_step (by omega), dd_step (by omega), dd_step (by omega), Lib.decDigits_one (by omega)]
  unfold pad5
  rw [show (100000 + k) / 10 / 10 / 10 / 10 / 10 = 1 by omega, show (100000 + k) / 10 / 10 / 10 / 10 % 10 = k / 10000 by omega, show (100000 + k) / 10 / 10 / 10 % 10 = k / 1000 % 10 by omega, show (100000 + k) / 10 / 10 % 10 = k / 100 % 10 by omega,
    show (100000 + k) / 10 % 10 = k / 10 % 10 by omega, show (100000 + k) % 10 = k % 10 by omega]
  rfl
theorem dd5 (k : Nat) (h : k < 100000) : (Lib.decDigits k).length ≤ 5 ∧ List.replicate (5 - (Lib.decDigits k).length) 48 ++ Lib.decDigits k = pad5 k := by
  have hz : (48 : UInt8) = UInt8.ofNat (48 + 0) := rfl
  unfold pad5
  by_cases h1 : k < 10
  · rw [Lib.decDigits_one h1, show k / 10000 = 0 by omega, show k / 1000 % 10 = 0 by omega, show k / 100 % 10 = 0 by omega, show k / 10 % 10 = 0 by omega, show k % 10 = k by omega]
    exact ⟨by simp, rfl⟩
  · by_cases h2 : k < 100
    · rw [dd_step h1, Lib.decDigits_one (by omega), show k / 10000 = 0 by omega, show k / 1000 % 10 = 0 by omega, show k / 100 % 10 = 0 by omega, show k / 10 % 10 = k / 10 by omega]
      exact ⟨by simp, rfl⟩
    · by_cases h3 : k < 1000
      · rw [dd_step h1, dd_step (by omega), Lib.decDigits_one (by omega), show k / 10000 = 0 by omega, show k / 1000 % 10 = 0 by omega, show k / 100 % 10 = k / 10 / 10 by omega]
        exact ⟨by simp, rfl⟩
      · by_cases h4 : k < 10000
        · rw [dd_step h1, dd_step (by omega), dd_step (by omega), Lib.decDigits_one (by omega), show k / 10000 = 0 by omega, show k / 1000 % 10 = k / 10 / 10 / 10 by omega, show k / 100 % 10 = k / 10 / 10 % 10 by omega]
          exact ⟨by simp, rfl⟩
        · rw [dd_step h1, dd_step (by omega), dd_step (by omega), dd_step (by omega), Lib.decDigits_one (by omega), show k / 10000 = k / 10 / 10 / 10 / 10 by omega, show k / 1000 % 10 = k / 10 / 10 / 10 % 10 by omega, show k / 100 % 10 = k / 10 / 10 % 10 by omega]
          exact ⟨by simp, rfl⟩
def fracS (m : Nat) : Nat := (m % 65536 * 100000 + 32768) / 65536
theorem fracS_lt (m : Nat) : fracS m < 100000 := by unfold fracS; omega
def tailS (m : Nat) : List UInt8 := if fracS m = 0 then [] else 46 :: Lib.trimRightB (pad5 (fracS m)) 48
def textS (a : Int) : List UInt8 := (if a < 0 then [45] else []) ++ Lib.decDigits (a.natAbs / 65536) ++ tailS a.natAbs
theorem trim_len (l : List UInt8) (c : UInt8) : (Lib.trimRightB l c).length ≤ l.length := by
  unfold Lib.trimRightB
  rw [List.length_reverse]
  exact Nat.le_trans (List.Sublist.length_le (List.dropWhile_sublist _)) (by simp)
theorem pad5_ne {k : Nat} (h0 : k ≠ 0) (h : k < 100000) : Lib.trimRightB (pad5 k) 48 ≠ [] := by
  intro he
  unfold Lib.trimRightB at he
  have hd : (pad5 k).reverse.dropWhile (· == 48) = [] := by simpa using congrArg List.reverse he
  have hall : ∀ x ∈ pad5 k, x = 48 := by
    have : ∀ (l : List UInt8), l.dropWhile (· == 48) = [] → ∀ x ∈ l, x = 48 := by
      intro l
      induction l with
      | nil => simp
      | cons y l ih =>
        intro h x hx
        rw [List.dropWhile_cons] at h
        split at h
        · rename_i hy
          rcases List.mem_cons.1 hx with rfl | hx
          · simpa using hy
          · exact ih h x hx
        · cases h
    intro x hx
    exact this _ hd x (by simpa using hx)
  have hn : ∀ j : Nat, j < 10 → UInt8.ofNat (48 + j) = 48 → j = 0 := by
    intro j hj e
    have := congrArg UInt8.toNat e
    simp [UInt8.toNat_ofNat'] at this
    omega
  unfold pad5 at hall
  simp only [List.mem_cons, List.not_mem_nil, or_false, forall_eq_or_imp, forall_eq] at hall
  have e1 := hn _ (by omega) hall.1
  have e2 := hn _ (by omega) hall.2.1
  have e3 := hn _ (by omega) hall.2.2.1
  have e4 := hn _ (by omega) hall.2.2.2.1
  have e5 := hn _ (by omega) hall.2.2.2.2
  omega
attribute [irreducible] pad5 fracS
end Go.Proofs.YtjeaglhjbadadaaDoor
