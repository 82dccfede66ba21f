/- Walks of functions of this seat, and what they compute: lemmas for the proofs of its statements. No condition. -/
import Derived.Test.YtjeaglhjbadadaaDoorR1
namespace Go.Proofs.YtjeaglhjbadadaaDoor
open Go.PB Go.RowKit
attribute [local irreducible] Go.Calls
/-! plain arithmetic -/
theorem tdiv64k (n : Int) : n.tdiv 65536 = if n < 0 then -((-n) / 65536) else n / 65536 := by
  split
  · conv => lhs; rw [← Int.neg_neg n]
    rw [Int.neg_tdiv, Int.tdiv_eq_ediv_of_nonneg (by omega)]
  · rw [Int.tdiv_eq_ediv_of_nonneg (by omega)]
theorem tmod64k (n : Int) : n.tmod 65536 = if n < 0 then -((-n) % 65536) else n % 65536 := by
  split
  · conv => lhs; rw [← Int.neg_neg n]
    rw [Int.neg_tmod, Int.tmod_eq_emod_of_nonneg (by omega)]
  · rw [Int.tmod_eq_emod_of_nonneg (by omega)]
theorem near (N D : Int) (hN : 0 ≤ N) (hD : 0 < D) : (2 * N + D) / (2 * D) = N / D + (if D ≤ 2 * (N % D) then 1 else 0) := by
  have h1 := Int.mul_ediv_add_emod N D
  have h2 := Int.emod_nonneg N (by omega : D ≠ 0)
  have h3 := Int.emod_lt_of_pos N hD
  have e : 2 * N + D = (2 * (N % D) + D) + 2 * D * (N / D) := by
    conv => lhs; rw [← h1]
    rw [Int.mul_add, ← Int.mul_assoc]; omega
  rw [e, Int.add_mul_ediv_left _ _ (by omega : 2 * D ≠ 0)]
  split
  · rename_i h
    have : (2 * (N % D) + D) / (2 * D) = 1 := by
      have e2 : 2 * (N % D) + D = (2 * (N % D) - D) + 2 * D * 1 := by omega
      rw [e2, Int.add_mul_ediv_left _ _ (by omega : 2 * D ≠ 0), Int.ediv_eq_zero_of_lt (by omega) (by omega)]; rfl
    omega
  · rw [Int.ediv_eq_zero_of_lt (by omega) (by omega)]; omega
theorem ediv_le' (m j : Int) (hm : 0 ≤ m) (hj : 0 < j) : 0 ≤ m / j ∧ m / j ≤ m := ⟨Int.ediv_nonneg hm (by omega), Int.ediv_le_self j hm⟩
/-- the nearest quotient -/
def quoS (n d : Int) : Int :=
  let N := if n < 0 then -n else n
  let D := if d < 0 then -d else d
  if decide (n < 0) ≠ decide (d < 0) then -((2 * N + D) / (2 * D)) else (2 * N + D) / (2 * D)
def divS (a b : Int) : Int := if b = 0 then (if 0 < a then 2147483647 else if a < 0 then -2147483648 else 0) else rawS (quoS (a * 65536) b)
def addS (a b : Int) : Int := rawS (a + b)
def subS (a b : Int) : Int := rawS (a - b)
def negS (a : Int) : Int := rawS (-a)
def absS (a : Int) : Int := max a (negS a)
def mulS (a b : Int) : Int := rawS ((a * b + 32768) / 65536)
def floorS (a : Int) : Int := a / 65536 * 65536
def fractS (a : Int) : Int := a % 65536
def signS (a : Int) : Int := if 0 < a then 65536 else if a < 0 then -65536 else 0
def modS (a b : Int) : Int := subS a (mulS b (floorS (divS a b)))
theorem divS_range (a b : Int) : -2147483648 ≤ divS a b ∧ divS a b ≤ 2147483647 := by
  unfold divS
  split
  · split
    · omega
    · split <;> omega
  · exact rawS_range _
theorem mul_range {a b : Int} (ha : -2147483648 ≤ a ∧ a ≤ 2147483647) (hb : -2147483648 ≤ b ∧ b ≤ 2147483647) : -4611686018427387904 ≤ a * b ∧ a * b ≤ 4611686018427387904 := by
  have h : (a * b).natAbs ≤ 2147483648 * 2147483648 := by
    rw [Int.natAbs_mul]
    exact Nat.mul_le_mul (by omega) (by omega)
  omega
/-! the model's operations in plain words -/
theorem shl16_64 (m : Int) (h : -70368744177664 ≤ m ∧ m ≤ 70368744177664) : Value.int .i64 (IntKind.i64.wrap (m * 2 ^ (min (Int.toNat 16) IntKind.i64.bits))) = .int .i64 (m * 65536) := by
  have e1 : (2 : Int) ^ (min (Int.toNat 16) IntKind.i64.bits) = 65536 := by decide
  rw [e1, wrap64_in (by omega)]
theorem shl16_32 (m : Int) (h : -32768 ≤ m ∧ m ≤ 32767) : Value.int .i32 (IntKind.i32.wrap (m * 2 ^ (min (Int.toNat 16) IntKind.i32.bits))) = .int .i32 (m * 65536) := by
  have e1 : (2 : Int) ^ (min (Int.toNat 16) IntKind.i32.bits) = 65536 := by decide
  rw [e1, IntWalk.i32_in _ (by omega)]
theorem shr16_64 (m : Int) : Value.int .i64 (m.fdiv (2 ^ (min (Int.toNat 16) IntKind.i64.bits))) = .int .i64 (m / 65536) := by
  have e1 : (2 : Int) ^ (min (Int.toNat 16) IntKind.i64.bits) = 65536 := by decide
  rw [e1, Int.fdiv_eq_ediv_of_nonneg _ (by omega)]
theorem shr16_32 (m : Int) : Value.int .i32 (m.fdiv (2 ^ (min (Int.toNat 16) IntKind.i32.bits))) = .int .i32 (m / 65536) := by
  have e1 : (2 : Int) ^ (min (Int.toNat 16) IntKind.i32.bits) = 65536 := by decide
  rw [e1, Int.fdiv_eq_ediv_of_nonneg _ (by omega)]
theorem and16 (b : Nat) (hb : 16 ≤ b) (m : Int) : ((BitVec.ofInt b m &&& BitVec.ofInt b 65535).toNat : Int) = m % 65536 := by
  have hp : (2 : Nat) ^ b = 65536 * 2 ^ (b - 16) := by
    conv => lhs; rw [show b = 16 + (b - 16) by omega, Nat.pow_add]
  have hpos : 0 < (2 : Nat) ^ (b - 16) := Nat.pow_pos (by omega)
  have h1 : (BitVec.ofInt b 65535).toNat = 65535 := by
    rw [BitVec.toNat_ofInt]
    have : (65535 : Int) % ((2 ^ b : Nat) : Int) = 65535 := Int.emod_eq_of_lt (by omega) (by rw [hp]; have : 65536 * 1 ≤ 65536 * 2 ^ (b - 16) := Nat.mul_le_mul_left _ hpos; omega)
    rw [this]; rfl
  rw [BitVec.toNat_and, h1, show (65535 : Nat) = 2 ^ 16 - 1 from rfl, Nat.and_two_pow_sub_one_eq_mod, BitVec.toNat_ofInt]
  have h2 : 0 ≤ m % ((2 ^ b : Nat) : Int) := Int.emod_nonneg _ (by have : 0 < (2 : Nat) ^ b := Nat.pow_pos (by omega); omega)
  rw [Int.natCast_emod, Int.toNat_of_nonneg h2, hp]
  rw [show ((65536 * 2 ^ (b - 16) : Nat) : Int) = 65536 * ((2 ^ (b - 16) : Nat) : Int) from Int.natCast_mul _ _, show ((2 ^ 16 : Nat) : Int) = 65536 from by decide]
  exact Int.emod_emod_of_dvd _ (Int.dvd_mul_right _ _)
theorem and16_32 (m : Int) : Value.int .i32 (IntKind.i32.wrap (BitVec.ofInt IntKind.i32.bits m &&& BitVec.ofInt IntKind.i32.bits 65535).toNat) = .int .i32 (m % 65536) := by
  rw [and16 _ (by decide), IntWalk.i32_in _ (by omega)]
theorem and16_64 (m : Int) : Value.int .i64 (IntKind.i64.wrap (BitVec.ofInt IntKind.i64.bits m &&& BitVec.ofInt IntKind.i64.bits 65535).toNat) = .int .i64 (m % 65536) := by
  rw [and16 _ (by decide), wrap64_in (by omega)]
theorem quo_nn (m j : Int) (hm : 0 ≤ m) (hj : 0 < j) (hb : m < 9223372036854775808) : Value.int .i64 (IntKind.i64.wrap (m.tdiv j)) = .int .i64 (m / j) := by
  have := ediv_le' m j hm hj
  rw [Int.tdiv_eq_ediv_of_nonneg hm, wrap64_in (by omega)]
theorem rem_nn (m j : Int) (hm : 0 ≤ m) : Value.int .i64 (m.tmod j) = .int .i64 (m % j) := by rw [Int.tmod_eq_emod_of_nonneg hm]
attribute [irreducible] quoS
end Go.Proofs.YtjeaglhjbadadaaDoor
