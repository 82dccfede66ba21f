/- The library's strings.TrimRight and strconv.FormatInt at this program's own numbers (laid by the kit's tools). No condition. -/
import Derived.Shelf.Strings.Trim
import Derived.Shelf.LaysM
import Derived.Shelf.Strconv.Itoa4
import Derived.Test.YtbinaeemcidicaaGreatDoorProg
import Derived.Test.YtbinaeemcidicaaGreatDoorZLS
import Derived.Test.YtbinaeemcidicaaGreatDoorZVD
import Derived.Test.YtbinaeemcidicaaGreatDoorZPW
import Derived.Test.YtbinaeemcidicaaGreatDoorZYJ
import Derived.Test.YtbinaeemcidicaaGreatDoorRows
set_option maxRecDepth 100000
set_option maxHeartbeats 16000000
namespace Go.Proofs
open Go.Shelf
def Tryz.lays162_ren : Go.Shelf.Ren := ⟨fun | 162 => 142 | 232 => 166 | 227 => 167 | 234 => 168 | 236 => 169 | 228 => 188 | 271 => 189 | 151 => 190 | 120 => 203 | 197 => 204 | 152 => 205 | 260 => 211 | 137 => 44 | 119 => 212 | 224 => 126 | 225 => 125 | 217 => 84 | 266 => 124 | n => n, fun | 9 => 9 | 4 => 4 | 3 => 3 | 5 => 5 | 117 => 195 | 116 => 194 | 0 => 0 | 124 => 198 | 21 => 21 | 105 => 209 | 46 => 166 | 119 => 229 | 139 => 232 | 138 => 231 | n => n, fun | 3 => 4 | 4 => 5 | n => n⟩
theorem Tryz.lays162 : Go.Proofs.Lays.n162 Tryz.prog Tryz.lays162_ren := {
 mixed := by kernel_rfl
 f119 := Tryz.func212.trans (congrArg some Zj)
 f120 := Tryz.func203.trans (congrArg some Zj)
 f137 := Tryz.func44.trans (congrArg some Zj)
 f151 := Tryz.func190.trans (congrArg some Zj)
 f152 := Tryz.func205.trans (congrArg some Zj)
 f162 := Tryz.func142.trans (congrArg some Zj)
 f197 := Tryz.func204.trans (congrArg some Zj)
 f217 := Tryz.func84.trans (congrArg some Zj)
 f224 := Tryz.func126.trans (congrArg some Zj)
 f225 := Tryz.func125.trans (congrArg some Zj)
 f227 := Tryz.func167.trans (congrArg some Zj)
 f228 := Tryz.func188.trans (congrArg some Zj)
 f232 := Tryz.func166.trans (congrArg some Zj)
 f234 := Tryz.func168.trans (congrArg some Zj)
 f236 := Tryz.func169.trans (congrArg some Zj)
 f260 := Tryz.func211.trans (congrArg some Zj)
 f266 := Tryz.func124.trans (congrArg some Zj)
 f271 := Tryz.func189.trans (congrArg some Zj)
 t0 := Tryz.underlying0
 a0 := Tryz.isAgg0
 z0 := Tryz.sizeOf0
 v0 := Tryz.zeroValue0
 t3 := Tryz.underlying3
 a3 := Tryz.isAgg3
 z3 := Tryz.sizeOf3
 v3 := Tryz.zeroValue3
 t4 := Tryz.underlying4
 a4 := Tryz.isAgg4
 z4 := Tryz.sizeOf4
 v4 := Tryz.zeroValue4
 t5 := Tryz.underlying5
 a5 := Tryz.isAgg5
 z5 := Tryz.sizeOf5
 v5 := Tryz.zeroValue5
 t9 := Tryz.underlying9
 a9 := Tryz.isAgg9
 z9 := Tryz.sizeOf9
 v9 := Tryz.zeroValue9
 t21 := Tryz.underlying21
 a21 := Tryz.isAgg21
 z21 := Tryz.sizeOf21
 v21 := Tryz.zeroValue21
 t46 := Tryz.underlying166
 a46 := Tryz.isAgg166
 z46 := Tryz.sizeOf166
 v46 := Tryz.zeroValue166
 t105 := Tryz.underlying209
 a105 := Tryz.isAgg209
 z105 := Tryz.sizeOf209
 v105 := Tryz.zeroValue209
 t116 := Tryz.underlying194
 a116 := Tryz.isAgg194
 z116 := Tryz.sizeOf194
 t117 := Tryz.underlying195
 a117 := Tryz.isAgg195
 z117 := Tryz.sizeOf195
 v117 := Tryz.zeroValue195
 t119 := Tryz.underlying229
 a119 := Tryz.isAgg229
 z119 := Tryz.sizeOf229
 t124 := Tryz.underlying198
 a124 := Tryz.isAgg198
 z124 := Tryz.sizeOf198
 v124 := Tryz.zeroValue198
 t138 := Tryz.underlying231
 a138 := Tryz.isAgg231
 z138 := Tryz.sizeOf231
 v138 := Tryz.zeroValue231
 t139 := Tryz.underlying232
 a139 := Tryz.isAgg232
 z139 := Tryz.sizeOf232
 v139 := Tryz.zeroValue232
 g3 := by kernel_rfl
 g4 := by kernel_rfl }
open Go.RowKit in
theorem Tryz.strings_TrimRight_one (s : ByteArray) (c : UInt8) (hc : c.toNat < 128) (w : World) (hs : s.size ≤ 9223372036854775807) :
  Calls Tryz.prog 142 #[.string s, .string ⟨#[c]⟩] w fun e w' => e = .returned (.string ⟨(Lib.trimRightB s.data.toList c).toArray⟩) ∧ w' = w := Any.strings_TrimRight_one Tryz.lays162 s c hc w hs
def Tryz.laysM246_ren : Go.Shelf.Ren := ⟨fun | 246 => 165 | 283 => 184 | 284 => 185 | 285 => 186 | 286 => 187 | 129 => 199 | 317 => 198 | 318 => 200 | 319 => 201 | 320 => 202 | 337 => 209 | 338 => 210 | n => n, fun | 2 => 2 | 3 => 3 | 9 => 9 | 4 => 4 | 171 => 204 | 0 => 0 | 53 => 200 | 37 => 51 | 5 => 5 | 173 => 207 | 212 => 219 | 51 => 187 | 20 => 20 | 213 => 220 | 46 => 166 | 232 => 227 | 233 => 228 | n => n, fun | 17 => 1 | 18 => 2 | 19 => 3 | n => n⟩
theorem Tryz.laysM246 : Go.Proofs.LaysM.n246 Tryz.prog Tryz.laysM246_ren := {
 mixed := by kernel_rfl
 f129 := Tryz.func199.trans (congrArg some Zj)
 f246 := Tryz.func165.trans (congrArg some Zj)
 f283 := Tryz.func184.trans (congrArg some Zj)
 f284 := Tryz.func185.trans (congrArg some Zj)
 f285 := Tryz.func186.trans (congrArg some Zj)
 f286 := Tryz.func187.trans (congrArg some Zj)
 f317 := Tryz.func198.trans (congrArg some Zj)
 f318 := Tryz.func200.trans (congrArg some Zj)
 f319 := Tryz.func201.trans (congrArg some Zj)
 f320 := Tryz.func202.trans (congrArg some Zj)
 f337 := Tryz.func209.trans (congrArg some Zj)
 f338 := Tryz.func210.trans (congrArg some Zj)
 t0 := Tryz.underlying0
 a0 := Tryz.isAgg0
 z0 := Tryz.sizeOf0
 v0 := Tryz.zeroValue0
 t2 := Tryz.underlying2
 a2 := Tryz.isAgg2
 z2 := Tryz.sizeOf2
 v2 := Tryz.zeroValue2
 t3 := Tryz.underlying3
 a3 := Tryz.isAgg3
 z3 := Tryz.sizeOf3
 v3 := Tryz.zeroValue3
 t4 := Tryz.underlying4
 a4 := Tryz.isAgg4
 z4 := Tryz.sizeOf4
 v4 := Tryz.zeroValue4
 t5 := Tryz.underlying5
 a5 := Tryz.isAgg5
 z5 := Tryz.sizeOf5
 v5 := Tryz.zeroValue5
 t9 := Tryz.underlying9
 a9 := Tryz.isAgg9
 z9 := Tryz.sizeOf9
 v9 := Tryz.zeroValue9
 t20 := Tryz.underlying20
 a20 := Tryz.isAgg20
 z20 := Tryz.sizeOf20
 v20 := Tryz.zeroValue20
 t37 := Tryz.underlying51
 a37 := Tryz.isAgg51
 z37 := Tryz.sizeOf51
 v37 := Tryz.zeroValue51
 t46 := Tryz.underlying166
 a46 := Tryz.isAgg166
 z46 := Tryz.sizeOf166
 v46 := Tryz.zeroValue166
 t51 := Tryz.underlying187
 a51 := Tryz.isAgg187
 z51 := Tryz.sizeOf187
 v51 := Tryz.zeroValue187
 t53 := Tryz.underlying200
 a53 := Tryz.isAgg200
 z53 := Tryz.sizeOf200
 v53 := Tryz.zeroValue200
 t171 := Tryz.underlying204
 a171 := Tryz.isAgg204
 z171 := Tryz.sizeOf204
 v171 := Tryz.zeroValue204
 t173 := Tryz.underlying207
 a173 := Tryz.isAgg207
 z173 := Tryz.sizeOf207
 v173 := Tryz.zeroValue207
 t212 := Tryz.underlying219
 a212 := Tryz.isAgg219
 z212 := Tryz.sizeOf219
 v212 := Tryz.zeroValue219
 t213 := Tryz.underlying220
 a213 := Tryz.isAgg220
 z213 := Tryz.sizeOf220
 t232 := Tryz.underlying227
 a232 := Tryz.isAgg227
 z232 := Tryz.sizeOf227
 v232 := Tryz.zeroValue227
 t233 := Tryz.underlying228
 a233 := Tryz.isAgg228
 z233 := Tryz.sizeOf228
 v233 := Tryz.zeroValue228
 g17 := by kernel_rfl
 g18 := by kernel_rfl
 g19 := by kernel_rfl
 i0 := by kernel_rfl
 i2 := by kernel_rfl
 i3 := by kernel_rfl
 i4 := by kernel_rfl
 i5 := by kernel_rfl
 i9 := by kernel_rfl
 i20 := by kernel_rfl
 i37 := by kernel_rfl
 i46 := by kernel_rfl
 i51 := by kernel_rfl
 i53 := by kernel_rfl
 i171 := by kernel_rfl
 i173 := by kernel_rfl
 i212 := by kernel_rfl
 i232 := by kernel_rfl
 i233 := by kernel_rfl
 m17 := by kernel_rfl
 m18 := by kernel_rfl
 m19 := by kernel_rfl }
open Go.RowKit Go.Sort Go.Lib in
theorem Tryz.internal_strconv_FormatInt_10 (n : Int) (h0 : -9223372036854775808 ≤ n) (h1 : n ≤ 9223372036854775807) (w : World) (htab : Lib.TabIs Tryz.prog w "internal/strconv.uint64pow10" .u64 Lib.pow10Tab) :
  Calls Tryz.prog 165 #[.int .i64 n, .int .i64 10] w fun e w' => e = .returned (.string ⟨(Lib.itoa n).toArray⟩) ∧ ∃ k os, w' = grow (w.drewN k) os := Any.internal_strconv_FormatInt_10 Tryz.laysM246 n h0 h1 w htab
end Go.Proofs
namespace Go.Proofs.YtbinaeemcidicaaGreatDoor
open Go.PB Go.RowKit
def pad5 (k : Nat) : List UInt8 := [UInt8.ofNat (48 + k / 10000), UInt8.ofNat (48 + k / 1000 % 10), UInt8.ofNat (48 + k / 100 % 10), UInt8.ofNat (48 + k / 10 % 10), UInt8.ofNat (48 + k % 10)]
theorem dd_step {k : Nat} (h : ¬k < 10) : Lib.decDigits k = Lib.decDigits (k / 10) ++ [UInt8.ofNat (48 + k % 10)] := by rw [Lib.decDigits, dif_neg h]
theorem dd6 (k : Nat) (h : k < 100000) : Lib.decDigits (100000 + k) = 49 :: pad5 k := by
 rw [dd_step Zf7, dd_step Zf7, dd_step Zf7, dd_step Zf7, dd_step Zf7, Lib.decDigits_one Zf7]
 unfold pad5
 rw [show (100000 + k) / 10 / 10 / 10 / 10 / 10 = 1 by omega, show (100000 + k) / 10 / 10 / 10 / 10 % 10 = k / 10000 by omega, show (100000 + k) / 10 / 10 / 10 % 10 = k / 1000 % 10 by omega, show (100000 + k) / 10 / 10 % 10 = k / 100 % 10 by omega,
  show (100000 + k) / 10 % 10 = k / 10 % 10 by omega, show (100000 + k) % 10 = k % 10 by omega]
 rfl
theorem dd5 (k : Nat) (h : k < 100000) : (Lib.decDigits k).length ≤ 5 ∧ List.replicate (5 - (Lib.decDigits k).length) 48 ++ Lib.decDigits k = pad5 k := by
 have hz : (48 : UInt8) = UInt8.ofNat (48 + 0) := rfl
 unfold pad5
 by_cases h1 : k < 10
 ·rw [Lib.decDigits_one h1, show k / 10000 = 0 by omega, show k / 1000 % 10 = 0 by omega, show k / 100 % 10 = 0 by omega, show k / 10 % 10 = 0 by omega, show k % 10 = k by omega]
  exact ⟨by simp, rfl⟩
 ·by_cases h2 : k < 100
  ·rw [dd_step h1, Lib.decDigits_one Zf7, show k / 10000 = 0 by omega, show k / 1000 % 10 = 0 by omega, show k / 100 % 10 = 0 by omega, show k / 10 % 10 = k / 10 by omega]
   exact ⟨by simp, rfl⟩
  ·by_cases h3 : k < 1000
   ·rw [dd_step h1, dd_step Zf7, Lib.decDigits_one Zf7, show k / 10000 = 0 by omega, show k / 1000 % 10 = 0 by omega, show k / 100 % 10 = k / 10 / 10 by omega]
    exact ⟨by simp, rfl⟩
   ·by_cases h4 : k < 10000
    ·rw [dd_step h1, dd_step Zf7, dd_step Zf7, Lib.decDigits_one Zf7, show k / 10000 = 0 by omega, show k / 1000 % 10 = k / 10 / 10 / 10 by omega, show k / 100 % 10 = k / 10 / 10 % 10 by omega]
     exact ⟨by simp, rfl⟩
    ·rw [dd_step h1, dd_step Zf7, dd_step Zf7, dd_step Zf7, Lib.decDigits_one Zf7, show k / 10000 = k / 10 / 10 / 10 / 10 by omega, show k / 1000 % 10 = k / 10 / 10 / 10 % 10 by omega, show k / 100 % 10 = k / 10 / 10 % 10 by omega]
     exact ⟨by simp, rfl⟩
def fracS (m : Nat) : Nat := (m % 65536 * 100000 + 32768) / 65536
theorem fracS_lt (m : Nat) : fracS m < 100000 := by unfold fracS; omega
def tailS (m : Nat) : List UInt8 := if fracS m = 0 then [] else 46 :: Lib.trimRightB (pad5 (fracS m)) 48
def textS (a : Int) : List UInt8 := (if a < 0 then [45] else []) ++ Lib.decDigits (a.natAbs / 65536) ++ tailS a.natAbs
theorem trim_len (l : List UInt8) (c : UInt8) : (Lib.trimRightB l c).length ≤ l.length := by
 unfold Lib.trimRightB
 rw [List.length_reverse]
 exact Nat.le_trans (List.Sublist.length_le (List.dropWhile_sublist _)) Zgh
theorem pad5_ne {k : Nat} (h0 : k ≠ 0) (h : k < 100000) : Lib.trimRightB (pad5 k) 48 ≠ [] := by
 intro he
 unfold Lib.trimRightB at he
 have hd : (pad5 k).reverse.dropWhile (· == 48) = [] := by simpa using congrArg List.reverse he
 have hall : ∀ x ∈ pad5 k, x = 48 := by
  have : ∀ (l : List UInt8), l.dropWhile (· == 48) = [] → ∀ x ∈ l, x = 48 := by
   intro l
   induction l with
   | nil => simp
   | cons y l ih =>
    intro h x hx
    rw [List.dropWhile_cons] at h
    split at h
    ·rename_i hy
     rcases List.mem_cons.1 hx with rfl | hx
     ·simpa using hy
     ·exact ih h x hx
    ·cases h
  intro x hx
  exact this _ hd x (by simpa using hx)
 have hn : ∀ j : Nat, j < 10 → UInt8.ofNat (48 + j) = 48 → j = 0 := by
  intro j hj e
  have := congrArg UInt8.toNat e
  simp [UInt8.toNat_ofNat'] at this
  omega
 unfold pad5 at hall
 simp only [List.mem_cons, List.not_mem_nil, or_false, forall_eq_or_imp, forall_eq] at hall
 have e1 := hn _ Zf7 hall.1
 have e2 := hn _ Zf7 hall.2.1
 have e3 := hn _ Zf7 hall.2.2.1
 have e4 := hn _ Zf7 hall.2.2.2.1
 have e5 := hn _ Zf7 hall.2.2.2.2
 omega
attribute [irreducible] pad5 fracS
end Go.Proofs.YtbinaeemcidicaaGreatDoor
namespace Go.Proofs.YtbinaeemcidicaaGreatDoor
open Go.PB Go.RowKit
attribute [local irreducible] Go.Calls
def quoS (n d : Int) : Int :=
 let N := if n < 0 then -n else n
 let D := if d < 0 then -d else d
 if decide (n < 0) ≠ decide (d < 0) then -((2 * N + D) / (2 * D)) else (2 * N + D) / (2 * D)
theorem shr16_64 (m : Int) : Value.int .i64 (m.fdiv (2 ^ (min (Int.toNat 16) IntKind.i64.bits))) = .int .i64 (m / 65536) := by
 have e1 : (2 : Int) ^ (min (Int.toNat 16) IntKind.i64.bits) = 65536 := by decide
 rw [e1, Int.fdiv_eq_ediv_of_nonneg _ Zf7]
theorem shr16_32 (m : Int) : Value.int .i32 (m.fdiv (2 ^ (min (Int.toNat 16) IntKind.i32.bits))) = .int .i32 (m / 65536) := by
 have e1 : (2 : Int) ^ (min (Int.toNat 16) IntKind.i32.bits) = 65536 := by decide
 rw [e1, Int.fdiv_eq_ediv_of_nonneg _ Zf7]
theorem and16 (b : Nat) (hb : 16 ≤ b) (m : Int) : ((BitVec.ofInt b m &&& BitVec.ofInt b 65535).toNat : Int) = m % 65536 := by
 have hp : (2 : Nat) ^ b = 65536 * 2 ^ (b - 16) := by
  conv => lhs; rw [show b = 16 + (b - 16) by omega, Nat.pow_add]
 have hpos : 0 < (2 : Nat) ^ (b - 16) := Nat.pow_pos Zf7
 have h1 : (BitVec.ofInt b 65535).toNat = 65535 := by
  rw [BitVec.toNat_ofInt]
  have : (65535 : Int) % ((2 ^ b : Nat) : Int) = 65535 := Int.emod_eq_of_lt Zf7 (by rw [hp]; have : 65536 * 1 ≤ 65536 * 2 ^ (b - 16) := Nat.mul_le_mul_left _ hpos; omega)
  rw [this]; rfl
 rw [BitVec.toNat_and, h1, show (65535 : Nat) = 2 ^ 16 - 1 from rfl, Nat.and_two_pow_sub_one_eq_mod, BitVec.toNat_ofInt]
 have h2 : 0 ≤ m % ((2 ^ b : Nat) : Int) := Int.emod_nonneg _ (by have : 0 < (2 : Nat) ^ b := Nat.pow_pos Zf7; omega)
 rw [Int.natCast_emod, Int.toNat_of_nonneg h2, hp]
 rw [show ((65536 * 2 ^ (b - 16) : Nat) : Int) = 65536 * ((2 ^ (b - 16) : Nat) : Int) from Int.natCast_mul _ _, show ((2 ^ 16 : Nat) : Int) = 65536 from by decide]
 exact Int.emod_emod_of_dvd _ (Int.dvd_mul_right _ _)
theorem and16_32 (m : Int) : Value.int .i32 (IntKind.i32.wrap (BitVec.ofInt IntKind.i32.bits m &&& BitVec.ofInt IntKind.i32.bits 65535).toNat) = .int .i32 (m % 65536) := by
 rw [and16 _ Zf6, IntWalk.i32_in _ Zf7]
theorem and16_64 (m : Int) : Value.int .i64 (IntKind.i64.wrap (BitVec.ofInt IntKind.i64.bits m &&& BitVec.ofInt IntKind.i64.bits 65535).toNat) = .int .i64 (m % 65536) := by
 rw [and16 _ Zf6, wrap64_in Zf7]
attribute [irreducible] quoS
end Go.Proofs.YtbinaeemcidicaaGreatDoor
namespace Go.Proofs.YtbinaeemcidicaaGreatDoor
open Go.PB Go.RowKit
attribute [local irreducible] Go.Calls
def PrAt (H : List Ent) (lv : Value) (pb : Nat) (A : List Ent) (s : PS) (o : Ow) (K : PS → Ow → List Ent) : Prop :=
 ∃ X, List.Perm H (prH lv pb s o (X ++ A)) ∧ ∀ s' o', List.Perm (K s' o') (prH lv pb s' o' (X ++ A))
theorem PrAt.here {lv : Value} {pb : Nat} {A : List Ent} {s : PS} {o : Ow} : PrAt (prH lv pb s o A) lv pb A s o (fun s' o' => prH lv pb s' o' A) := ⟨[], List.Perm.refl _, fun _ _ => List.Perm.refl _⟩
theorem PrAt.there {H : List Ent} {lv : Value} {pb : Nat} {A : List Ent} {s : PS} {o : Ow} {K : PS → Ow → List Ent} {p : Ent} (h : PrAt H lv pb A s o K) : PrAt (p :: H) lv pb A s o (fun s' o' => p :: K s' o') := by
 obtain ⟨X, h1, h2⟩ := h
 exact ⟨p :: X, (h1.cons p).trans (List.Perm.swap _ _ _), fun s' o' => ((h2 s' o').cons p).trans (List.Perm.swap _ _ _)⟩
def PrC (F : FuncId) (args : List Value) (lv : Value) (pb : Nat) (R : List Ent) (ts : List (List UInt8)) : Prop :=
 ∀ ⦃M : List Nat⦄ ⦃w0 w : World⦄ ⦃A : List Ent⦄ ⦃s : PS⦄ ⦃o : Ow⦄, St M w0 w (prH lv pb s o A) → (∀ e ∈ R, e ∈ A) → ownOk s.1.length 1 (bytV s.1) o → (putsS s ts).1.length ≤ 1000000000 →
  Calls Tryz.prog F args.toArray w (GivesS (fun _ : Ow => .tuple #[]) (fun o' => ownOk (putsS s ts).1.length 1 (bytV (putsS s ts).1) o') M w0 (fun o' => prH lv pb (putsS s ts) o' A))
theorem pr_at {F : FuncId} {args : List Value} {lv : Value} {pb : Nat} {R : List Ent} {ts : List (List UInt8)} (h : PrC F args lv pb R ts) {M : List Nat} {w0 w : World} {H A : List Ent} {s : PS} {o : Ow} {K : PS → Ow → List Ent}
  (hst : St M w0 w H) (hA : PrAt H lv pb A s o K) (hR : ∀ e ∈ R, e ∈ A) (hok : ownOk s.1.length 1 (bytV s.1) o) (hb : (putsS s ts).1.length ≤ 1000000000) :
  Calls Tryz.prog F args.toArray w (GivesS (fun _ : Ow => .tuple #[]) (fun o' => ownOk (putsS s ts).1.length 1 (bytV (putsS s ts).1) o') M w0 (fun o' => K (putsS s ts) o')) := by
 obtain ⟨X, h1, h2⟩ := hA
 refine (h (hst.perm h1) (fun e he => List.mem_append_right _ (hR e he)) hok hb).mono fun e w' hR => ?_
 obtain ⟨o', hφ, he, hs⟩ := hR
 exact ⟨o', hφ, he, hs.perm (h2 _ _).symm⟩
def neL : List (List UInt8) → Prop
 | [] => True
 | t :: l => 0 < t.length ∧ neL l
theorem neL_all : ∀ {l : List (List UInt8)}, neL l → ∀ t ∈ l, 0 < t.length
 | [], _, t, h => by cases h
 | a :: l, h, t, ht => by
  rcases List.mem_cons.1 ht with rfl | ht
  ·exact h.1
  ·exact neL_all h.2 t ht
theorem put_at {M : List Nat} {w0 w : World} {H A : List Ent} {lv : Value} {pb sb n : Nat} {s : PS} {o : Ow} {K : PS → Ow → List Ent} {ss : List (List UInt8)} (hst : St M w0 w H) (hA : PrAt H lv pb A s o K) (hm : (⟨sb, true, row (strV ss) 9⟩ : Ent) ∈ H) (hn : n = ss.length)
  (hok : ownOk s.1.length 1 (bytV s.1) o) (hne : neL ss) (hb : (putsS s ss).1.length ≤ 1000000000) (hls : ss.length ≤ 1000000) :
  Calls Tryz.prog 33 #[ptr pb, .slice (some ⟨sb, 0, none⟩) n n] w (GivesS (fun _ : Ow => .tuple #[]) (fun o' => ownOk (putsS s ss).1.length 1 (bytV (putsS s ss).1) o') M w0 (fun o' => K (putsS s ss) o')) := by
 obtain ⟨X, h1, h2⟩ := hA
 subst hn
 have hmX : (⟨sb, true, row (strV ss) 9⟩ : Ent) ∈ X ++ A := by
  rcases List.mem_cons.1 (h1.subset hm) with e | hm'
  ·exact absurd (show 9 = 55 from congrArg objT (congrArg Ent.o e)) Zf6
  ·rcases List.mem_append.1 hm' with hm' | hm'
   ·exact hm'
   ·cases o with
    | none => cases hm'
    | some o =>
     have e := List.mem_singleton.1 hm'
     exact absurd (show 9 = 5 from congrArg objT (congrArg Ent.o e)) Zf6
 have hv : RdX (X ++ A) (.slice (some ⟨sb, 0, none⟩) ss.length ss.length) ss.length (strV ss) := .inr ⟨sb, 0, ss.length, (strV ss).toArray, 9, (0, 0), true, rfl, hmX, Nat.le_refl _, fun j u hu => by simpa using hu⟩
 refine (pput_ok (hst.perm h1) hv hok (neL_all hne) hb hls).mono fun e w' hR => ?_
 obtain ⟨o', hφ, he, hs⟩ := hR
 exact ⟨o', hφ, he, hs.perm (h2 _ _).symm⟩
theorem has165 : Has Tryz.prog 165 := ⟨_, _, Tryz.func165, rfl, by kernel_rfl⟩
theorem has138 : Has Tryz.prog 138 := ⟨_, _, Tryz.func138, rfl, by kernel_rfl⟩
abbrev powN : String := (Rows.parseBackRow.laid.map (·.1)).getD 2 default
def Pows (w : World) : Prop := Lib.TabIs Tryz.prog w powN .u64 Lib.pow10Tab
def PowE (A : List Ent) : Prop := ∃ g et fr wr, Tryz.prog.globalNamed powN = some g ∧ (⟨g, wr, .cells (Lib.pow10Tab.map fun z => Value.int .u64 z).toArray et fr⟩ : Ent) ∈ A
theorem PowE.mono {A B : List Ent} (h : PowE A) (hm : ∀ e ∈ A, e ∈ B) : PowE B := by
 obtain ⟨g, et, fr, wr, h1, h2⟩ := h
 exact ⟨g, et, fr, wr, h1, hm _ h2⟩
theorem PowE.st {A : List Ent} {M : List Nat} {w0 w : World} (h : PowE A) (hs : St M w0 w A) : Pows w := by
 obtain ⟨g, et, fr, wr, h1, h2⟩ := h
 unfold Pows Lib.TabIs World.var?
 rw [h1, Option.bind_some, hs.get h2]
theorem PowE.of {w : World} (h : Pows w) : ∃ g et fr, w.heap[g]? = some (.cells (Lib.pow10Tab.map fun z => Value.int .u64 z).toArray et fr) ∧ Tryz.prog.globalNamed powN = some g := by
 unfold Pows Lib.TabIs World.var? at h
 obtain ⟨g, hg, hv⟩ := Option.bind_eq_some_iff.1 h
 split at hv
 ·rename_i cs et fr hc
  cases hv
  exact ⟨g, et, fr, hc, hg⟩
 ·cases hv
theorem int_ok (a : Int) (ha : -2147483648 ≤ a ∧ a ≤ 2147483647) (w : World) : Calls Tryz.prog 102 #[.int .i32 a] w (Give (.int .i64 (a / 65536)) w) := by
 refine give_of_W (vs := [.int .i32 a]) Tryz.func102 rfl Tryz.ntmps102 (Nat.le_of_ble_eq_true rfl) (St.nil w _) ?_
 simp only [argL]
 repeat' (first | (apply gL; first | (apply Wl.ev rfl rfl; exact Zfp) | apply Wl.nil) | (apply gQ; first | (apply Wq.ev rfl rfl; exact Zfp)) | (apply lW; first | apply W.seq | apply W.region | (refine Zba ?_; intro w hs)))
 all_goals first | exact ret_eq hs rfl | contradiction
theorem max_ok (a : Int) (b : Int) (w : World) : Calls Tryz.prog 139 #[.int .i32 a, .int .i32 b] w (Give (.int .i32 (max a b)) w) := by
 refine give_of_W (vs := [.int .i32 a, .int .i32 b]) Tryz.func139 rfl Tryz.ntmps139 (Nat.le_of_ble_eq_true rfl) (St.nil w _) ?_
 simp only [argL, Nat.zero_add]
 repeat' (first | (apply gL; first | (apply Wl.ev rfl rfl; exact Zev) | apply Wl.nil) | (apply gQ; first | (apply Wq.ev rfl rfl; exact Zev)) | (apply lW; first | apply W.seq | apply W.region | (refine Zba ?_; intro w hs)))
 all_goals first | exact ret_eq hs rfl | contradiction
theorem abs_ok (a : Int) (ha : -2147483648 < a ∧ a ≤ 2147483647) (w : World) : Calls Tryz.prog 103 #[.int .i32 a] w (Give (.int .i32 (max a (-a))) w) := by
 refine give_of_W (vs := [.int .i32 a]) Tryz.func103 rfl Tryz.ntmps103 (Nat.le_of_ble_eq_true rfl) (St.nil w _) ?_
 simp only [argL]
 repeat' (first | (apply gL; first | (apply Wl.ev rfl rfl; exact Zev) | (refine lD 140 ?_; refine wl_call0 rfl rfl has140 rfl (fun w _ => neg_ok a ha w) ?_) | (refine lD 139 ?_; refine wl_call0 rfl rfl has139 rfl (fun w _ => max_ok a (-a) w) ?_) | apply Wl.nil) | (apply gQ; first | (apply Wq.ev rfl rfl; exact Zev)) | (apply lW; first | apply W.seq | apply W.region | (refine Zba ?_; intro w hs)))
 all_goals first | exact ret_eq hs rfl | contradiction
theorem fmtI_ok (k : Nat) (hk : k < 9223372036854775808) (w : World) (h : Pows w) : Calls Tryz.prog 165 #[.int .i64 (k : Nat), .int .i64 10] w (Give (st (Lib.decDigits k)) w) := by
 refine (Tryz.internal_strconv_FormatInt_10 (k : Int) Zf7 Zf7 w h).mono ?_
 rintro e w' ⟨rfl, n, os, rfl⟩
 refine ⟨?_, ?_⟩
 ·unfold Lib.itoa
  rw [if_neg Zf7]
  rfl
 ·refine ⟨rfl, rfl, rfl, by simp [Sort.grow], fun k hk _ => ?_, by simp, by simp, .nil⟩
  have : k < (w.drewN n).heap.size := hk
  simp [Sort.grow, Array.getElem?_append]
  intro hle; omega
theorem Pows.st {w0 w : World} {H : List Ent} (hs : St [] w0 w H) (h : Pows w0) : Pows w := by
 unfold Pows Lib.TabIs World.var? at h ⊢
 obtain ⟨g, hg, hv⟩ := Option.bind_eq_some_iff.1 h
 rw [hg, Option.bind_some]
 have hlt : g < w0.heap.size := by
  refine Nat.lt_of_not_le fun hle => ?_
  rw [Array.getElem?_eq_none hle] at hv
  cases hv
 rw [hs.frame g hlt Zgh]
 exact hv
theorem fmt_ok (m : Int) (k : Nat) (hm : m = k) (hk : k < 9223372036854775808) (w : World) (h : Pows w) : Calls Tryz.prog 141 #[.int .i64 m, .int .i64 10] w (Give (st (Lib.decDigits k)) w) := by
 subst hm
 refine give_of_W (vs := [.int .i64 (k : Nat), .int .i64 10]) Tryz.func141 rfl Tryz.ntmps141 (Nat.le_of_ble_eq_true rfl) (St.nil w _) ?_
 simp only [argL, Nat.zero_add]
 repeat' (first | (apply gL; first | (apply Wl.ev rfl rfl; exact Zev) | (refine lD 165 ?_; refine wl_call0 rfl rfl has165 rfl (fun w hs => fmtI_ok k hk w (h.st hs)) ?_) | apply Wl.nil) | (apply gQ; first | (apply Wq.ev rfl rfl; exact Zev)) | (apply lW; first | apply W.seq | apply W.region | (refine Zba ?_; intro w hs)))
 all_goals first | exact ret_eq hs rfl | contradiction
theorem itoaI_ok (m : Int) (k : Nat) (hm : m = k) (hk : k < 9223372036854775808) (w : World) (h : Pows w) : Calls Tryz.prog 138 #[.int .i64 m] w (Give (st (Lib.decDigits k)) w) := by
 subst hm
 refine give_of_W (vs := [.int .i64 (k : Nat)]) Tryz.func138 rfl Tryz.ntmps138 (Nat.le_of_ble_eq_true rfl) (St.nil w _) ?_
 simp only [argL]
 repeat' (first | (apply gL; first | (apply Wl.ev rfl rfl; exact Zev) | (refine lD 165 ?_; refine wl_call0 rfl rfl has165 rfl (fun w hs => fmtI_ok k hk w (h.st hs)) ?_) | apply Wl.nil) | (apply gQ; first | (apply Wq.ev rfl rfl; exact Zev)) | (apply lW; first | apply W.seq | apply W.region | (refine Zba ?_; intro w hs)))
 all_goals first | exact ret_eq hs rfl | contradiction
theorem itoa_ok (m : Int) (k : Nat) (hm : m = k) (hk : k < 9223372036854775808) (w : World) (h : Pows w) : Calls Tryz.prog 101 #[.int .i64 m] w (Give (st (Lib.decDigits k)) w) := by
 subst hm
 refine give_of_W (vs := [.int .i64 (k : Nat)]) Tryz.func101 rfl Tryz.ntmps101 (Nat.le_of_ble_eq_true rfl) (St.nil w _) ?_
 simp only [argL]
 repeat' (first | (apply gL; first | (apply Wl.ev rfl rfl; exact Zev) | (refine lD 138 ?_; refine wl_call0 rfl rfl has138 rfl (fun w hs => itoaI_ok _ k rfl hk w (h.st hs)) ?_) | apply Wl.nil) | (apply gQ; first | (apply Wq.ev rfl rfl; exact Zev)) | (apply lW; first | apply W.seq | apply W.region | (refine Zba ?_; intro w hs)))
 all_goals first | exact ret_eq hs rfl | contradiction
theorem trim_ok (l : List UInt8) (hl : l.length < 9223372036854775808) (w : World) : Calls Tryz.prog 142 #[st l, st [48]] w (Give (st (Lib.trimRightB l 48)) w) := by
 refine (Tryz.strings_TrimRight_one ⟨l.toArray⟩ 48 Zf6 w (by simp only [ByteArray.size]; simp; omega)).mono ?_
 rintro e w' ⟨rfl, rfl⟩
 exact ⟨rfl, Turn.refl _⟩
end Go.Proofs.YtbinaeemcidicaaGreatDoor
namespace Go.Proofs.YtbinaeemcidicaaGreatDoor
open Go.PB Go.RowKit
attribute [local irreducible] Go.Calls
theorem strIx1_ok (l : List UInt8) (c : UInt8) (w : World) : Calls Tryz.prog 45 #[st l, st [c]] w (Give (.int .i64 (Lib.indexByte l c)) w) := by
 refine (Any.strings_Index_one Tryz.lays143 ⟨l.toArray⟩ c w).mono ?_
 rintro e w' ⟨rfl, rfl⟩
 exact ⟨rfl, Turn.refl _⟩
theorem contains1_ok (l : List UInt8) (c : UInt8) (w : World) : Calls Tryz.prog 105 #[st l, st [c]] w (Give (.bool (decide (0 ≤ Lib.indexByte l c))) w) := by
 refine give_of_W (vs := [st l, st [c]]) Tryz.func105 rfl Tryz.ntmps105 (Nat.le_of_ble_eq_true rfl) (St.nil w _) ?_
 simp only [argL, Nat.zero_add]
 repeat' (first | (apply gL; first | (apply Wl.ev rfl rfl; exact Zev) | (refine lD 45 ?_; refine wl_call0 rfl rfl has45 rfl (fun w hs => strIx1_ok l c w) ?_) | apply Wl.nil) | (apply gQ; first | (apply Wq.ev rfl rfl; exact Zev)) | (apply lW; first | apply W.seq | apply W.region | (refine Zba ?_; intro w hs)))
 all_goals first | exact ret_eq hs rfl | contradiction
theorem frac_ok (k : Nat) (_ : k ≤ 2147483648) : Value.int .i64 (((k : Int) % 65536 * 100000 + 32768) / 65536) = .int .i64 (fracS k : Nat) := by
 unfold fracS; congr 1
theorem text_ok (a : Int) (ha : -2147483648 ≤ a ∧ a ≤ 2147483647) (w : World) (hp : Pows w) : Calls Tryz.prog 104 #[.int .i32 a] w (Give (st (textS a)) w) := by
 refine give_of_W (vs := [.int .i32 a]) Tryz.func104 rfl Tryz.ntmps104 (Nat.le_of_ble_eq_true rfl) (St.nil w _) ?_
 simp only [argL]
 obtain ⟨M, hM⟩ : ∃ M, a.natAbs = M := ⟨_, rfl⟩
 have hMr : M ≤ 2147483648 := by omega
 have hF := fracS_lt M
 have hfr := frac_ok M hMr
 have hd5 := dd5 (M / 65536) Zf7
 have hd6 := dd6 (fracS M) hF
 have hpl : (pad5 (fracS M)).length = 5 := by unfold pad5; rfl
 have htr := trim_len (pad5 (fracS M)) 48
 have hres : textS a = (if a < 0 then [45] else []) ++ Lib.decDigits (M / 65536) ++ tailS M := by unfold textS; rw [hM]
 have htl : tailS M = if fracS M = 0 then [] else 46 :: Lib.trimRightB (pad5 (fracS M)) 48 := rfl
 obtain ⟨F, hFe⟩ : ∃ F, fracS M = F := ⟨_, rfl⟩
 obtain ⟨Dg, hDg⟩ : ∃ Dg, Lib.decDigits (M / 65536) = Dg := ⟨_, rfl⟩
 obtain ⟨Pd, hPd⟩ : ∃ Pd, pad5 F = Pd := ⟨_, rfl⟩
 obtain ⟨T, hT⟩ : ∃ T, Lib.trimRightB Pd 48 = T := ⟨_, rfl⟩
 rw [hFe] at hF hfr hd6 hpl htr htl
 rw [hDg] at hd5 hres
 rw [hPd] at hd6 hpl htr htl
 rw [hT] at htr htl
 by_cases ha0 : a < 0
 ·repeat' (first | (apply gL; first | (apply Wl.ev rfl rfl; exact Zcy) | (refine lD 141 ?_; refine wl_call0 rfl rfl has141 rfl Zex ?_) | (refine lD 141 ?_; refine wl_call0 rfl rfl has141 rfl Zet ?_) | (refine lD 142 ?_; refine wl_call0 rfl rfl has142 rfl (fun w _ => (show Calls _ _ _ _ (Give (st T) w) from by rw [← hT]; exact trim_ok Pd Zf7 w)) ?_) | apply Wl.nil) | (apply lW; first | apply W.seq | apply W.region | apply W.skip | (refine Zz ?_ ?_ <;> (intro h; try exact Zg)) | (refine Zba ?_; intro w hs)))
  ·exact ret_eq hs (by rw [hres, htl, if_pos ha0, if_pos Zf7]; simp)
  ·exact ret_eq hs (by rw [hres, htl, if_pos ha0, if_neg Zf7]; simp)
 ·repeat' (first | (apply gL; first | (apply Wl.ev rfl rfl; exact Zcy) | (refine lD 141 ?_; refine wl_call0 rfl rfl has141 rfl Zex ?_) | (refine lD 141 ?_; refine wl_call0 rfl rfl has141 rfl Zet ?_) | (refine lD 142 ?_; refine wl_call0 rfl rfl has142 rfl (fun w _ => (show Calls _ _ _ _ (Give (st T) w) from by rw [← hT]; exact trim_ok Pd Zf7 w)) ?_) | apply Wl.nil) | (apply lW; first | apply W.seq | apply W.region | apply W.skip | (refine Zz ?_ ?_ <;> (intro h; try exact Zg)) | (refine Zba ?_; intro w hs)))
  ·exact ret_eq hs (by rw [hres, htl, if_neg ha0, if_pos Zf7]; simp)
  ·exact ret_eq hs (by rw [hres, htl, if_neg ha0, if_neg Zf7]; simp)
def floS (x : Int) : List UInt8 := if 0 ≤ Lib.indexByte (textS x) 46 then textS x else textS x ++ [46, 48]
theorem textS_len (x : Int) (h : -2147483648 ≤ x ∧ x ≤ 2147483647) : 1 ≤ (textS x).length ∧ (textS x).length ≤ 20 := by
 have hd := (dd5 (x.natAbs / 65536) Zf7).1
 have ht := trim_len (pad5 (fracS x.natAbs)) 48
 have hp : (pad5 (fracS x.natAbs)).length = 5 := by unfold pad5; rfl
 have h0 : 1 ≤ (Lib.decDigits (x.natAbs / 65536)).length := by
  rw [Lib.decDigits]
  split
  ·simp
  ·rw [List.length_append]; simp
 unfold textS tailS
 rw [List.length_append, List.length_append]
 split <;> split <;> simp only [List.length_cons, List.length_nil] <;> omega
theorem floS_len (x : Int) (h : -2147483648 ≤ x ∧ x ≤ 2147483647) : 1 ≤ (floS x).length ∧ (floS x).length ≤ 22 := by
 have := textS_len x h
 unfold floS
 split
 ·omega
 ·rw [List.length_append]
  simp only [List.length_cons, List.length_nil]
  omega
theorem float_ok (x : Int) (hx : -2147483648 ≤ x ∧ x ≤ 2147483647) (w : World) (hp : Pows w) : Calls Tryz.prog 68 #[.int .i32 x] w (Give (st (floS x)) w) := by
 refine give_of_W (vs := [.int .i32 x]) Tryz.func68 rfl Tryz.ntmps68 (Nat.le_of_ble_eq_true rfl) (St.nil w _) ?_
 simp only [argL]
 obtain ⟨t, ht⟩ : ∃ t, textS x = t := ⟨_, rfl⟩
 have htl := textS_len x hx
 have hf : floS x = if 0 ≤ Lib.indexByte t 46 then t else t ++ [46, 48] := by unfold floS; rw [ht]
 rw [ht] at htl
 have tx : ∀ {w' : World} {H : List Ent}, St [] w w' H → Calls Tryz.prog 104 #[.int .i32 x] w' (Give (st t) w') := fun hs => by rw [← ht]; exact text_ok x hx _ (hp.st hs)
 by_cases h : 0 ≤ Lib.indexByte t 46
 ·rw [hf, if_pos h]
  repeat' (first | (apply gL; first | (apply Wl.ev rfl rfl; exact Zev) | (refine lD 104 ?_; refine wl_call0 rfl rfl has104 rfl (fun w hs => tx hs) ?_) | (refine lD 105 ?_; refine wl_call0 rfl rfl has105 rfl (fun w hs => contains1_ok t 46 w) ?_) | apply Wl.nil) | (apply gQ; first | (apply Wq.ev rfl rfl; exact Zev)) | (apply lW; first | apply W.seq | apply W.region | apply W.skip | (refine Zz ?_ ?_ <;> (intro h; try exact Za)) | (refine Zba ?_; intro w hs)))
  all_goals first | exact ret_eq hs rfl | contradiction | exact Zy
 ·rw [hf, if_neg h]
  repeat' (first | (apply gL; first | (apply Wl.ev rfl rfl; exact Zev) | (refine lD 104 ?_; refine wl_call0 rfl rfl has104 rfl (fun w hs => tx hs) ?_) | (refine lD 105 ?_; refine wl_call0 rfl rfl has105 rfl (fun w hs => contains1_ok t 46 w) ?_) | apply Wl.nil) | (apply gQ; first | (apply Wq.ev rfl rfl; exact Zev)) | (apply lW; first | apply W.seq | apply W.region | (refine Zz ?_ ?_ <;> (intro h; try exact Za)) | (refine Zba ?_; intro w hs)))
  all_goals first | exact ret_eq hs rfl | contradiction | exact Zy
def intS (x : Int) : List UInt8 := Lib.decDigits (x.toNat / 65536)
theorem intS_len (x : Int) (h : x ≤ 2147483647) : 1 ≤ (intS x).length ∧ (intS x).length ≤ 5 := by
 have hd := (dd5 (x.toNat / 65536) Zf7).1
 have h0 : 1 ≤ (Lib.decDigits (x.toNat / 65536)).length := by
  rw [Lib.decDigits]
  split
  ·simp
  ·rw [List.length_append]; simp
 exact ⟨h0, hd⟩
def wholeT' (x : Int) : List (List UInt8) := if x < 0 then [[45], intS (-x)] else [intS x]
theorem whole_ok' {lv : Value} {pb : Nat} {R : List Ent} (hpow : PowE R) {x : Int} (hx : -2147483648 < x ∧ x ≤ 2147483647) : PrC 66 [ptr pb, .int .i32 x] lv pb R (wholeT' x) := by
 intro M w0 w A s o hst hR hok hb
 refine calls_of_W (vs := [ptr pb, .int .i32 x]) Tryz.func66 rfl Tryz.ntmps66 (Nat.le_of_ble_eq_true rfl) hst.fromHere ?_
 simp only [argL]
 obtain ⟨y, hy⟩ : ∃ y, max x (-x) = y := ⟨_, rfl⟩
 have hab : ∀ w, Calls Tryz.prog 103 #[.int .i32 x] w (Give (.int .i32 y) w) := fun w => by rw [← hy]; exact abs_ok x hx w
 have hin : ∀ w, Calls Tryz.prog 102 #[.int .i32 y] w (Give (.int .i64 (y / 65536)) w) := fun w => int_ok y Zf7 w
 have hn : 0 ≤ y ∧ y ≤ 2147483647 := by omega
 obtain ⟨d, hd⟩ : ∃ d, intS y = d := ⟨_, rfl⟩
 have hdl : 0 < d.length := by rw [← hd]; exact (intS_len y hn.2).1
 have hit : ∀ {w' : World} {H : List Ent} {M : List Nat} {w0 : World}, St M w0 w' H → (∀ e ∈ A, e ∈ H) → Calls Tryz.prog 101 #[.int .i64 (y / 65536)] w' (Give (st d) w') := fun {w' H M w0} hs hm => by
  rw [← hd]
  exact itoa_ok _ _ Zf7 Zf7 w' ((hpow.mono fun e he => hm e (hR e he)).st hs)
 by_cases h0 : x < 0
 ·have hw : wholeT' x = [[45]] ++ [d] := by
   unfold wholeT'
   rw [if_pos h0, ← hd, ← hy, show max x (-x) = -x by omega]
   rfl
  rw [hw, putsS_app] at hb ⊢
  repeat' (first | (apply gL; first | (apply Wl.ev rfl rfl; exact Zev) | (refine lD 103 ?_; refine wl_call0 rfl rfl has103 rfl (fun w hs => hab w) ?_) | (refine lD 102 ?_; refine wl_call0 rfl rfl has102 rfl (fun w hs => hin w) ?_) | (refine lD 101 ?_; refine wl_call0 rfl rfl has101 rfl (fun w hs => hit hs (fun e he => by simp [he])) ?_) | (refine lC 8 33 ?_; refine wl_callS rfl rfl has33 rfl (fun w hs => put_at (ss := [[45]]) hs Zs Zd rfl Zf5 Zv Zi (Nat.le_of_ble_eq_true rfl)) ?_; intro oq hoq) | (refine lC 15 33 ?_; refine wl_callS rfl rfl has33 rfl Zl7 ?_; intro oq hoq) | apply Wl.nil | (apply wl_buildSlice rfl rfl (slT rfl) (szT rfl) (zeroT rfl) rfl Zf6 rfl; exact Zt; intro b)) | (apply gQ; first | (apply Wq.ev rfl rfl; exact Zev)) | (apply lW; first | apply W.seq | apply W.region | (refine Zz ?_ ?_ <;> (intro h; try exact Za)) | (refine Zdl ?_; intro w hs)))
  all_goals first | exact GivesS.of hst hs _ Zf5 rfl Ze | contradiction | exact Zy
 ·have hw : wholeT' x = [d] := by
   unfold wholeT'
   rw [if_neg h0, ← hd, ← hy, show max x (-x) = x by omega]
  rw [hw] at hb ⊢
  repeat' (first | (apply gL; first | (apply Wl.ev rfl rfl; exact Zev) | (refine lD 103 ?_; refine wl_call0 rfl rfl has103 rfl (fun w hs => hab w) ?_) | (refine lD 102 ?_; refine wl_call0 rfl rfl has102 rfl (fun w hs => hin w) ?_) | (refine lD 101 ?_; refine wl_call0 rfl rfl has101 rfl (fun w hs => hit hs (fun e he => by simp [he])) ?_) | (refine lC 15 33 ?_; refine wl_callS rfl rfl has33 rfl Zl7 ?_; intro oq hoq) | apply Wl.nil | (apply wl_buildSlice rfl rfl (slT rfl) (szT rfl) (zeroT rfl) rfl Zf6 rfl; exact Zt; intro b)) | (apply gQ; first | (apply Wq.ev rfl rfl; exact Zev)) | (apply lW; first | apply W.seq | apply W.region | apply W.skip | (refine Zz ?_ ?_ <;> (intro h; try exact Za)) | (refine Zdl ?_; intro w hs)))
  all_goals first | exact GivesS.of hst hs _ Zf5 rfl Ze | contradiction | exact Zy
end Go.Proofs.YtbinaeemcidicaaGreatDoor
