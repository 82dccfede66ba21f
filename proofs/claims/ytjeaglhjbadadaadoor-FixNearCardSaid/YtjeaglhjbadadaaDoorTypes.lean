import Derived.Test.YtjeaglhjbadadaaDoorProg
import Derived.Test.YtjeaglhjbadadaaDoorEng
/- the types' facts, printed by a program of mine (gen.py) off the translation -/
namespace Go.Proofs.YtjeaglhjbadadaaDoor
open Go.PB

def szTab : TypeId → Option Nat
  | 2 => some 1
  | 3 => some 1
  | 4 => some 1
  | 5 => some 1
  | 9 => some 1
  | 12 => some 1
  | 21 => some 1
  | 22 => some 1
  | 24 => some 1
  | 43 => some 1
  | 45 => some 1
  | 53 => some 256
  | 54 => some 256
  | 58 => some 1
  | 62 => some 24
  | 63 => some 1
  | 75 => some 20
  | 76 => some 1
  | 77 => some 65
  | 85 => some 32
  | 86 => some 64
  | 87 => some 256
  | 90 => some 32
  | 101 => some 1
  | _ => none

theorem szT {t : TypeId} {n : Nat} (h : szTab t = some n) : Sz Tryd.prog t n := by
  unfold szTab at h
  split at h <;> first | (cases h; unfold Sz; kernel_rfl) | cases h

def byTab : TypeId → Option Nat
  | 2 => some 8
  | 3 => some 8
  | 4 => some 1
  | 5 => some 1
  | 9 => some 16
  | 12 => some 8
  | 21 => some 4
  | 22 => some 4
  | 24 => some 8
  | 43 => some 8
  | 45 => some 24
  | 53 => some 256
  | 54 => some 256
  | 58 => some 8
  | 62 => some 24
  | 63 => some 8
  | 75 => some 160
  | 76 => some 4
  | 77 => some 65
  | 85 => some 32
  | 86 => some 64
  | 87 => some 256
  | 90 => some 32
  | 101 => some 8
  | _ => none

theorem byT {t : TypeId} {n : Nat} (h : byTab t = some n) : By Tryd.prog t n := by
  unfold byTab at h
  split at h <;> first | (cases h; unfold By; kernel_rfl) | cases h

def agTab : TypeId → Option Bool
  | 2 => some false
  | 3 => some false
  | 4 => some false
  | 5 => some false
  | 9 => some false
  | 12 => some false
  | 21 => some false
  | 22 => some false
  | 24 => some false
  | 43 => some false
  | 45 => some false
  | 53 => some true
  | 54 => some true
  | 58 => some false
  | 62 => some true
  | 63 => some false
  | 75 => some true
  | 76 => some false
  | 77 => some true
  | 85 => some true
  | 86 => some true
  | 87 => some true
  | 90 => some true
  | 101 => some false
  | _ => none

theorem agT {t : TypeId} {b : Bool} (h : agTab t = some b) : Ag Tryd.prog t b := by
  unfold agTab at h
  split at h
  · cases h; exact ⟨_, Tryd.underlying2, rfl⟩
  · cases h; exact ⟨_, Tryd.underlying3, rfl⟩
  · cases h; exact ⟨_, Tryd.underlying4, rfl⟩
  · cases h; exact ⟨_, Tryd.underlying5, rfl⟩
  · cases h; exact ⟨_, Tryd.underlying9, rfl⟩
  · cases h; exact ⟨_, Tryd.underlying12, rfl⟩
  · cases h; exact ⟨_, Tryd.underlying21, rfl⟩
  · cases h; exact ⟨_, Tryd.underlying22, rfl⟩
  · cases h; exact ⟨_, Tryd.underlying24, rfl⟩
  · cases h; exact ⟨_, Tryd.underlying43, rfl⟩
  · cases h; exact ⟨_, Tryd.underlying45, rfl⟩
  · cases h; exact ⟨_, Tryd.underlying53, rfl⟩
  · cases h; exact ⟨_, Tryd.underlying54, rfl⟩
  · cases h; exact ⟨_, Tryd.underlying58, rfl⟩
  · cases h; exact ⟨_, Tryd.underlying62, rfl⟩
  · cases h; exact ⟨_, Tryd.underlying63, rfl⟩
  · cases h; exact ⟨_, Tryd.underlying75, rfl⟩
  · cases h; exact ⟨_, Tryd.underlying76, rfl⟩
  · cases h; exact ⟨_, Tryd.underlying77, rfl⟩
  · cases h; exact ⟨_, Tryd.underlying85, rfl⟩
  · cases h; exact ⟨_, Tryd.underlying86, rfl⟩
  · cases h; exact ⟨_, Tryd.underlying87, rfl⟩
  · cases h; exact ⟨_, Tryd.underlying90, rfl⟩
  · cases h; exact ⟨_, Tryd.underlying101, rfl⟩
  · cases h

def zeroTab : TypeId → Option (List Value)
  | 2 => some [.int .i64 0]
  | 3 => some [.int .i64 0]
  | 4 => some [.bool false]
  | 5 => some [.int .u8 0]
  | 9 => some [.string ⟨[].toArray⟩]
  | 12 => some [.int .u64 0]
  | 21 => some [.int .i32 0]
  | 22 => some [.int .i32 0]
  | 24 => some [.int .i64 0]
  | 43 => some [.int .u64 0]
  | 45 => some [.slice none 0 0]
  | 58 => some [.pointer none]
  | 63 => some [.int .u64 0]
  | 76 => some [.int .u32 0]
  | 101 => some [.pointer none]
  | _ => none

theorem zero_of {t : TypeId} {z : Value} {l : List Value} (h : (Tryd.prog.info? t).map (·.zero) = some (some z)) (hl : z.cells = l.toArray) : Zero Tryd.prog t l := by
  obtain ⟨i, hi, hz⟩ := Option.map_eq_some_iff.1 h
  exact ⟨i, z, hi, hz, hl⟩

theorem zeroT {t : TypeId} {l : List Value} (h : zeroTab t = some l) : Zero Tryd.prog t l := by
  unfold zeroTab at h
  split at h
  · cases h; exact zero_of (z := (.int .i64 0)) (by kernel_rfl) rfl
  · cases h; exact zero_of (z := (.int .i64 0)) (by kernel_rfl) rfl
  · cases h; exact zero_of (z := (.bool false)) (by kernel_rfl) rfl
  · cases h; exact zero_of (z := (.int .u8 0)) (by kernel_rfl) rfl
  · cases h; exact zero_of (z := (.string ⟨[].toArray⟩)) (by kernel_rfl) rfl
  · cases h; exact zero_of (z := (.int .u64 0)) (by kernel_rfl) rfl
  · cases h; exact zero_of (z := (.int .i32 0)) (by kernel_rfl) rfl
  · cases h; exact zero_of (z := (.int .i32 0)) (by kernel_rfl) rfl
  · cases h; exact zero_of (z := (.int .i64 0)) (by kernel_rfl) rfl
  · cases h; exact zero_of (z := (.int .u64 0)) (by kernel_rfl) rfl
  · cases h; exact zero_of (z := (.slice none 0 0)) (by kernel_rfl) rfl
  · cases h; exact zero_of (z := (.pointer none)) (by kernel_rfl) rfl
  · cases h; exact zero_of (z := (.int .u64 0)) (by kernel_rfl) rfl
  · cases h; exact zero_of (z := (.int .u32 0)) (by kernel_rfl) rfl
  · cases h; exact zero_of (z := (.pointer none)) (by kernel_rfl) rfl
  · cases h

def slTab : TypeId → Option TypeId
  | 45 => some 5
  | _ => none

theorem slT {t e : TypeId} (h : slTab t = some e) : Sl Tryd.prog t e := by
  unfold slTab at h
  split at h
  · cases h; exact Tryd.underlying45
  · cases h

def intTab : TypeId → Option IntKind
  | 2 => some IntKind.i64
  | 3 => some IntKind.i64
  | 5 => some IntKind.u8
  | 12 => some IntKind.u64
  | 21 => some IntKind.i32
  | 22 => some IntKind.i32
  | 24 => some IntKind.i64
  | 43 => some IntKind.u64
  | 63 => some IntKind.u64
  | 76 => some IntKind.u32
  | _ => none

theorem intT {t : TypeId} {k : IntKind} (h : intTab t = some k) : Tryd.prog.underlying t = some (.int k) := by
  unfold intTab at h
  split at h
  · cases h; exact Tryd.underlying2
  · cases h; exact Tryd.underlying3
  · cases h; exact Tryd.underlying5
  · cases h; exact Tryd.underlying12
  · cases h; exact Tryd.underlying21
  · cases h; exact Tryd.underlying22
  · cases h; exact Tryd.underlying24
  · cases h; exact Tryd.underlying43
  · cases h; exact Tryd.underlying63
  · cases h; exact Tryd.underlying76
  · cases h

def strTab : TypeId → Option Unit
  | 9 => some ()
  | _ => none

theorem strT {t : TypeId} (h : strTab t = some ()) : Tryd.prog.underlying t = some .string := by
  unfold strTab at h
  split at h
  · exact Tryd.underlying9
  · cases h

theorem dT {t : TypeId} {k : IntKind} (h : intTab t = some k) : ∃ d, Tryd.prog.underlying t = some d := ⟨_, intT h⟩

def fldTab : TypeId → Nat → Option (Nat × TypeId)
  | _, _ => none

theorem fldT {t f off : Nat} {ft : TypeId} (h : fldTab t f = some (off, ft)) : Fld Tryd.prog t f off ft := by
  unfold fldTab at h
  split at h
  · cases h

def bldTab : TypeId → Option (List Value × List (Nat × Nat))
  | _ => none

theorem bldT {t : TypeId} {z : List Value} {pl : List (Nat × Nat)} (h : bldTab t = some (z, pl)) : Bld Tryd.prog t z pl := by
  unfold bldTab at h
  split at h
  · cases h

def mpTab : TypeId → Option (TypeId × TypeId)
  | _ => none

theorem mpT {t k e : TypeId} (h : mpTab t = some (k, e)) : Mp Tryd.prog t k e := by
  unfold mpTab at h
  split at h
  · cases h

def zeroVTab : TypeId → Option Value
  | 2 => some (.int .i64 0)
  | 3 => some (.int .i64 0)
  | 4 => some (.bool false)
  | 5 => some (.int .u8 0)
  | 9 => some (.string ⟨[].toArray⟩)
  | 12 => some (.int .u64 0)
  | 21 => some (.int .i32 0)
  | 22 => some (.int .i32 0)
  | 24 => some (.int .i64 0)
  | 43 => some (.int .u64 0)
  | 45 => some (.slice none 0 0)
  | 58 => some (.pointer none)
  | 63 => some (.int .u64 0)
  | 76 => some (.int .u32 0)
  | 101 => some (.pointer none)
  | _ => none

theorem zeroVT {t : TypeId} {v : Value} (h : zeroVTab t = some v) : ZeroV Tryd.prog t v := by
  unfold zeroVTab at h
  split at h <;> first | (cases h; unfold ZeroV; kernel_rfl) | cases h

def flatTab : TypeId → Option (List Nat)
  | _ => none

theorem flatT {t : TypeId} {ks : List Nat} (h : flatTab t = some ks) : Flat Tryd.prog t ks := by
  unfold flatTab at h
  split at h
  · cases h

def arrTab : TypeId → Option (Nat × TypeId)
  | 53 => some (256, 4)
  | 54 => some (256, 4)
  | 62 => some (24, 5)
  | 75 => some (20, 63)
  | 77 => some (65, 5)
  | 85 => some (32, 5)
  | 86 => some (64, 5)
  | 87 => some (256, 5)
  | 90 => some (16, 89)
  | _ => none

theorem arrT {t m e : Nat} (h : arrTab t = some (m, e)) : Tryd.prog.underlying t = some (.array m e) := by
  unfold arrTab at h
  split at h
  · cases h; exact Tryd.underlying53
  · cases h; exact Tryd.underlying54
  · cases h; exact Tryd.underlying62
  · cases h; exact Tryd.underlying75
  · cases h; exact Tryd.underlying77
  · cases h; exact Tryd.underlying85
  · cases h; exact Tryd.underlying86
  · cases h; exact Tryd.underlying87
  · cases h; exact Tryd.underlying90
  · cases h

def boolTab : TypeId → Option Unit
  | 4 => some ()
  | _ => none

theorem boolT {t : TypeId} (h : boolTab t = some ()) : Tryd.prog.underlying t = some .bool := by
  unfold boolTab at h
  split at h
  · exact Tryd.underlying4
  · cases h

theorem mixed : Tryd.prog.follows .mixedOrders = true := by kernel_rfl

theorem has3 : Has Tryd.prog 3 := ⟨_, _, Tryd.func3, rfl, by kernel_rfl⟩
theorem has4 : Has Tryd.prog 4 := ⟨_, _, Tryd.func4, rfl, by kernel_rfl⟩
theorem has5 : Has Tryd.prog 5 := ⟨_, _, Tryd.func5, rfl, by kernel_rfl⟩
theorem has6 : Has Tryd.prog 6 := ⟨_, _, Tryd.func6, rfl, by kernel_rfl⟩
theorem has7 : Has Tryd.prog 7 := ⟨_, _, Tryd.func7, rfl, by kernel_rfl⟩
theorem has8 : Has Tryd.prog 8 := ⟨_, _, Tryd.func8, rfl, by kernel_rfl⟩
theorem has9 : Has Tryd.prog 9 := ⟨_, _, Tryd.func9, rfl, by kernel_rfl⟩
theorem has10 : Has Tryd.prog 10 := ⟨_, _, Tryd.func10, rfl, by kernel_rfl⟩
theorem has11 : Has Tryd.prog 11 := ⟨_, _, Tryd.func11, rfl, by kernel_rfl⟩
theorem has12 : Has Tryd.prog 12 := ⟨_, _, Tryd.func12, rfl, by kernel_rfl⟩
theorem has13 : Has Tryd.prog 13 := ⟨_, _, Tryd.func13, rfl, by kernel_rfl⟩
theorem has14 : Has Tryd.prog 14 := ⟨_, _, Tryd.func14, rfl, by kernel_rfl⟩
theorem has15 : Has Tryd.prog 15 := ⟨_, _, Tryd.func15, rfl, by kernel_rfl⟩
theorem has16 : Has Tryd.prog 16 := ⟨_, _, Tryd.func16, rfl, by kernel_rfl⟩
theorem has17 : Has Tryd.prog 17 := ⟨_, _, Tryd.func17, rfl, by kernel_rfl⟩
theorem has18 : Has Tryd.prog 18 := ⟨_, _, Tryd.func18, rfl, by kernel_rfl⟩
theorem has19 : Has Tryd.prog 19 := ⟨_, _, Tryd.func19, rfl, by kernel_rfl⟩
theorem has20 : Has Tryd.prog 20 := ⟨_, _, Tryd.func20, rfl, by kernel_rfl⟩
theorem has21 : Has Tryd.prog 21 := ⟨_, _, Tryd.func21, rfl, by kernel_rfl⟩
theorem has22 : Has Tryd.prog 22 := ⟨_, _, Tryd.func22, rfl, by kernel_rfl⟩
theorem has23 : Has Tryd.prog 23 := ⟨_, _, Tryd.func23, rfl, by kernel_rfl⟩
theorem has24 : Has Tryd.prog 24 := ⟨_, _, Tryd.func24, rfl, by kernel_rfl⟩
theorem has25 : Has Tryd.prog 25 := ⟨_, _, Tryd.func25, rfl, by kernel_rfl⟩
theorem has26 : Has Tryd.prog 26 := ⟨_, _, Tryd.func26, rfl, by kernel_rfl⟩
theorem has27 : Has Tryd.prog 27 := ⟨_, _, Tryd.func27, rfl, by kernel_rfl⟩
theorem has28 : Has Tryd.prog 28 := ⟨_, _, Tryd.func28, rfl, by kernel_rfl⟩
theorem has29 : Has Tryd.prog 29 := ⟨_, _, Tryd.func29, rfl, by kernel_rfl⟩
theorem has30 : Has Tryd.prog 30 := ⟨_, _, Tryd.func30, rfl, by kernel_rfl⟩
theorem has31 : Has Tryd.prog 31 := ⟨_, _, Tryd.func31, rfl, by kernel_rfl⟩
theorem has32 : Has Tryd.prog 32 := ⟨_, _, Tryd.func32, rfl, by kernel_rfl⟩
theorem has33 : Has Tryd.prog 33 := ⟨_, _, Tryd.func33, rfl, by kernel_rfl⟩
theorem has34 : Has Tryd.prog 34 := ⟨_, _, Tryd.func34, rfl, by kernel_rfl⟩
theorem has35 : Has Tryd.prog 35 := ⟨_, _, Tryd.func35, rfl, by kernel_rfl⟩
theorem has36 : Has Tryd.prog 36 := ⟨_, _, Tryd.func36, rfl, by kernel_rfl⟩
theorem has37 : Has Tryd.prog 37 := ⟨_, _, Tryd.func37, rfl, by kernel_rfl⟩
theorem has38 : Has Tryd.prog 38 := ⟨_, _, Tryd.func38, rfl, by kernel_rfl⟩
theorem has39 : Has Tryd.prog 39 := ⟨_, _, Tryd.func39, rfl, by kernel_rfl⟩
theorem has40 : Has Tryd.prog 40 := ⟨_, _, Tryd.func40, rfl, by kernel_rfl⟩
theorem has41 : Has Tryd.prog 41 := ⟨_, _, Tryd.func41, rfl, by kernel_rfl⟩
theorem has42 : Has Tryd.prog 42 := ⟨_, _, Tryd.func42, rfl, by kernel_rfl⟩
theorem has43 : Has Tryd.prog 43 := ⟨_, _, Tryd.func43, rfl, by kernel_rfl⟩
theorem has44 : Has Tryd.prog 44 := ⟨_, _, Tryd.func44, rfl, by kernel_rfl⟩
theorem has45 : Has Tryd.prog 45 := ⟨_, _, Tryd.func45, rfl, by kernel_rfl⟩
theorem has46 : Has Tryd.prog 46 := ⟨_, _, Tryd.func46, rfl, by kernel_rfl⟩
theorem has47 : Has Tryd.prog 47 := ⟨_, _, Tryd.func47, rfl, by kernel_rfl⟩
theorem has48 : Has Tryd.prog 48 := ⟨_, _, Tryd.func48, rfl, by kernel_rfl⟩
theorem has49 : Has Tryd.prog 49 := ⟨_, _, Tryd.func49, rfl, by kernel_rfl⟩
theorem has50 : Has Tryd.prog 50 := ⟨_, _, Tryd.func50, rfl, by kernel_rfl⟩
theorem has51 : Has Tryd.prog 51 := ⟨_, _, Tryd.func51, rfl, by kernel_rfl⟩
theorem has52 : Has Tryd.prog 52 := ⟨_, _, Tryd.func52, rfl, by kernel_rfl⟩
theorem has53 : Has Tryd.prog 53 := ⟨_, _, Tryd.func53, rfl, by kernel_rfl⟩
theorem has54 : Has Tryd.prog 54 := ⟨_, _, Tryd.func54, rfl, by kernel_rfl⟩
theorem has55 : Has Tryd.prog 55 := ⟨_, _, Tryd.func55, rfl, by kernel_rfl⟩
theorem has56 : Has Tryd.prog 56 := ⟨_, _, Tryd.func56, rfl, by kernel_rfl⟩
theorem has57 : Has Tryd.prog 57 := ⟨_, _, Tryd.func57, rfl, by kernel_rfl⟩
theorem has58 : Has Tryd.prog 58 := ⟨_, _, Tryd.func58, rfl, by kernel_rfl⟩
theorem has59 : Has Tryd.prog 59 := ⟨_, _, Tryd.func59, rfl, by kernel_rfl⟩
theorem has61 : Has Tryd.prog 61 := ⟨_, _, Tryd.func61, rfl, by kernel_rfl⟩
theorem has62 : Has Tryd.prog 62 := ⟨_, _, Tryd.func62, rfl, by kernel_rfl⟩
theorem has63 : Has Tryd.prog 63 := ⟨_, _, Tryd.func63, rfl, by kernel_rfl⟩
theorem has64 : Has Tryd.prog 64 := ⟨_, _, Tryd.func64, rfl, by kernel_rfl⟩
theorem has65 : Has Tryd.prog 65 := ⟨_, _, Tryd.func65, rfl, by kernel_rfl⟩
theorem has66 : Has Tryd.prog 66 := ⟨_, _, Tryd.func66, rfl, by kernel_rfl⟩
theorem has71 : Has Tryd.prog 71 := ⟨_, _, Tryd.func71, rfl, by kernel_rfl⟩
theorem has73 : Has Tryd.prog 73 := ⟨_, _, Tryd.func73, rfl, by kernel_rfl⟩
theorem has74 : Has Tryd.prog 74 := ⟨_, _, Tryd.func74, rfl, by kernel_rfl⟩
theorem has85 : Has Tryd.prog 85 := ⟨_, _, Tryd.func85, rfl, by kernel_rfl⟩
theorem has91 : Has Tryd.prog 91 := ⟨_, _, Tryd.func91, rfl, by kernel_rfl⟩
end Go.Proofs.YtjeaglhjbadadaaDoor

