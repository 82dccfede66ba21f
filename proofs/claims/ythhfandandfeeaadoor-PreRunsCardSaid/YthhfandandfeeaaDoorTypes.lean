import Derived.Test.YthhfandandfeeaaDoorProg
import Derived.Test.YthhfandandfeeaaDoorEng
/- the types' facts, printed by a program of mine (gen.py) off the translation -/
namespace Go.Proofs.YthhfandandfeeaaDoor
open Go.PB

def szTab : TypeId → Option Nat
  | 2 => some 1
  | 3 => some 1
  | 4 => some 1
  | 5 => some 1
  | 9 => some 1
  | 12 => some 1
  | 21 => some 1
  | 23 => some 1
  | 24 => some 1
  | 25 => some 2
  | 26 => some 2
  | 31 => some 1
  | 33 => some 1
  | 34 => some 5
  | 35 => some 5
  | 37 => some 1
  | 41 => some 1
  | 43 => some 1
  | 44 => some 1
  | 45 => some 4
  | 46 => some 4
  | 50 => some 2
  | 51 => some 2
  | 52 => some 1
  | 53 => some 1
  | 54 => some 3
  | 55 => some 3
  | 60 => some 1
  | 61 => some 3
  | 62 => some 3
  | 70 => some 3
  | 71 => some 3
  | 74 => some 1
  | 75 => some 3
  | 76 => some 3
  | 87 => some 1
  | 89 => some 13
  | 95 => some 1
  | 101 => some 24
  | 102 => some 1
  | 107 => some 1
  | 112 => some 20
  | 113 => some 65
  | 117 => some 32
  | 118 => some 64
  | 128 => some 1
  | _ => none

theorem szT {t : TypeId} {n : Nat} (h : szTab t = some n) : Sz Tryd.prog t n := by
  unfold szTab at h
  split at h <;> first | (cases h; unfold Sz; kernel_rfl) | cases h

def byTab : TypeId → Option Nat
  | 2 => some 8
  | 3 => some 8
  | 4 => some 1
  | 5 => some 1
  | 9 => some 16
  | 12 => some 8
  | 21 => some 4
  | 23 => some 24
  | 24 => some 8
  | 25 => some 16
  | 26 => some 16
  | 31 => some 24
  | 33 => some 4
  | 34 => some 48
  | 35 => some 48
  | 37 => some 24
  | 41 => some 8
  | 43 => some 8
  | 44 => some 24
  | 45 => some 64
  | 46 => some 64
  | 50 => some 40
  | 51 => some 40
  | 52 => some 24
  | 53 => some 24
  | 54 => some 72
  | 55 => some 72
  | 60 => some 8
  | 61 => some 32
  | 62 => some 32
  | 70 => some 3
  | 71 => some 3
  | 74 => some 8
  | 75 => some 3
  | 76 => some 3
  | 87 => some 24
  | 89 => some 208
  | 95 => some 8
  | 101 => some 24
  | 102 => some 8
  | 107 => some 4
  | 112 => some 160
  | 113 => some 65
  | 117 => some 32
  | 118 => some 64
  | 128 => some 8
  | _ => none

theorem byT {t : TypeId} {n : Nat} (h : byTab t = some n) : By Tryd.prog t n := by
  unfold byTab at h
  split at h <;> first | (cases h; unfold By; kernel_rfl) | cases h

def agTab : TypeId → Option Bool
  | 2 => some false
  | 3 => some false
  | 4 => some false
  | 5 => some false
  | 9 => some false
  | 12 => some false
  | 21 => some false
  | 23 => some false
  | 24 => some false
  | 25 => some true
  | 26 => some true
  | 31 => some false
  | 33 => some false
  | 34 => some true
  | 35 => some true
  | 37 => some false
  | 41 => some false
  | 43 => some false
  | 44 => some false
  | 45 => some true
  | 46 => some true
  | 50 => some true
  | 51 => some true
  | 52 => some false
  | 53 => some false
  | 54 => some true
  | 55 => some true
  | 60 => some false
  | 61 => some true
  | 62 => some true
  | 70 => some true
  | 71 => some true
  | 74 => some false
  | 75 => some true
  | 76 => some true
  | 87 => some false
  | 89 => some true
  | 95 => some false
  | 101 => some true
  | 102 => some false
  | 107 => some false
  | 112 => some true
  | 113 => some true
  | 117 => some true
  | 118 => some true
  | 128 => some false
  | _ => none

theorem agT {t : TypeId} {b : Bool} (h : agTab t = some b) : Ag Tryd.prog t b := by
  unfold agTab at h
  split at h
  · cases h; exact ⟨_, Tryd.underlying2, rfl⟩
  · cases h; exact ⟨_, Tryd.underlying3, rfl⟩
  · cases h; exact ⟨_, Tryd.underlying4, rfl⟩
  · cases h; exact ⟨_, Tryd.underlying5, rfl⟩
  · cases h; exact ⟨_, Tryd.underlying9, rfl⟩
  · cases h; exact ⟨_, Tryd.underlying12, rfl⟩
  · cases h; exact ⟨_, Tryd.underlying21, rfl⟩
  · cases h; exact ⟨_, Tryd.underlying23, rfl⟩
  · cases h; exact ⟨_, Tryd.underlying24, rfl⟩
  · cases h; exact ⟨_, Tryd.underlying25, rfl⟩
  · cases h; exact ⟨_, Tryd.underlying26, rfl⟩
  · cases h; exact ⟨_, Tryd.underlying31, rfl⟩
  · cases h; exact ⟨_, Tryd.underlying33, rfl⟩
  · cases h; exact ⟨_, Tryd.underlying34, rfl⟩
  · cases h; exact ⟨_, Tryd.underlying35, rfl⟩
  · cases h; exact ⟨_, Tryd.underlying37, rfl⟩
  · cases h; exact ⟨_, Tryd.underlying41, rfl⟩
  · cases h; exact ⟨_, Tryd.underlying43, rfl⟩
  · cases h; exact ⟨_, Tryd.underlying44, rfl⟩
  · cases h; exact ⟨_, Tryd.underlying45, rfl⟩
  · cases h; exact ⟨_, Tryd.underlying46, rfl⟩
  · cases h; exact ⟨_, Tryd.underlying50, rfl⟩
  · cases h; exact ⟨_, Tryd.underlying51, rfl⟩
  · cases h; exact ⟨_, Tryd.underlying52, rfl⟩
  · cases h; exact ⟨_, Tryd.underlying53, rfl⟩
  · cases h; exact ⟨_, Tryd.underlying54, rfl⟩
  · cases h; exact ⟨_, Tryd.underlying55, rfl⟩
  · cases h; exact ⟨_, Tryd.underlying60, rfl⟩
  · cases h; exact ⟨_, Tryd.underlying61, rfl⟩
  · cases h; exact ⟨_, Tryd.underlying62, rfl⟩
  · cases h; exact ⟨_, Tryd.underlying70, rfl⟩
  · cases h; exact ⟨_, Tryd.underlying71, rfl⟩
  · cases h; exact ⟨_, Tryd.underlying74, rfl⟩
  · cases h; exact ⟨_, Tryd.underlying75, rfl⟩
  · cases h; exact ⟨_, Tryd.underlying76, rfl⟩
  · cases h; exact ⟨_, Tryd.underlying87, rfl⟩
  · cases h; exact ⟨_, Tryd.underlying89, rfl⟩
  · cases h; exact ⟨_, Tryd.underlying95, rfl⟩
  · cases h; exact ⟨_, Tryd.underlying101, rfl⟩
  · cases h; exact ⟨_, Tryd.underlying102, rfl⟩
  · cases h; exact ⟨_, Tryd.underlying107, rfl⟩
  · cases h; exact ⟨_, Tryd.underlying112, rfl⟩
  · cases h; exact ⟨_, Tryd.underlying113, rfl⟩
  · cases h; exact ⟨_, Tryd.underlying117, rfl⟩
  · cases h; exact ⟨_, Tryd.underlying118, rfl⟩
  · cases h; exact ⟨_, Tryd.underlying128, rfl⟩
  · cases h

def zeroTab : TypeId → Option (List Value)
  | 2 => some [.int .i64 0]
  | 3 => some [.int .i64 0]
  | 4 => some [.bool false]
  | 5 => some [.int .u8 0]
  | 9 => some [.string ⟨[].toArray⟩]
  | 12 => some [.int .u64 0]
  | 21 => some [.int .i32 0]
  | 23 => some [.slice none 0 0]
  | 24 => some [.int .i64 0]
  | 25 => some [.int .i64 0, .int .i64 0]
  | 26 => some [.int .i64 0, .int .i64 0]
  | 31 => some [.slice none 0 0]
  | 33 => some [.int .i32 0]
  | 34 => some [.int .i64 0, .string ⟨[].toArray⟩, .int .i32 0, .int .i64 0, .int .i64 0]
  | 35 => some [.int .i64 0, .string ⟨[].toArray⟩, .int .i32 0, .int .i64 0, .int .i64 0]
  | 37 => some [.slice none 0 0]
  | 41 => some [.pointer none]
  | 43 => some [.map none]
  | 44 => some [.slice none 0 0]
  | 45 => some [.map none, .slice none 0 0, .slice none 0 0, .int .i64 0]
  | 46 => some [.map none, .slice none 0 0, .slice none 0 0, .int .i64 0]
  | 50 => some [.string ⟨[].toArray⟩, .slice none 0 0]
  | 51 => some [.string ⟨[].toArray⟩, .slice none 0 0]
  | 52 => some [.slice none 0 0]
  | 53 => some [.slice none 0 0]
  | 54 => some [.slice none 0 0, .slice none 0 0, .slice none 0 0]
  | 55 => some [.slice none 0 0, .slice none 0 0, .slice none 0 0]
  | 60 => some [.pointer none]
  | 61 => some [.string ⟨[].toArray⟩, .int .i64 0, .int .i64 0]
  | 62 => some [.string ⟨[].toArray⟩, .int .i64 0, .int .i64 0]
  | 70 => some [.bool false, .bool false, .bool false]
  | 71 => some [.bool false, .bool false, .bool false]
  | 74 => some [.map none]
  | 75 => some [.bool false, .bool false, .bool false]
  | 76 => some [.bool false, .bool false, .bool false]
  | 87 => some [.slice none 0 0]
  | 89 => some [.string ⟨[].toArray⟩, .string ⟨[].toArray⟩, .string ⟨[].toArray⟩, .string ⟨[].toArray⟩, .string ⟨[].toArray⟩, .string ⟨[].toArray⟩, .string ⟨[].toArray⟩, .string ⟨[].toArray⟩, .string ⟨[].toArray⟩, .string ⟨[].toArray⟩, .string ⟨[].toArray⟩, .string ⟨[].toArray⟩, .string ⟨[].toArray⟩]
  | 95 => some [.int .u64 0]
  | 102 => some [.int .u64 0]
  | 107 => some [.int .u32 0]
  | 112 => some [.int .u64 0, .int .u64 0, .int .u64 0, .int .u64 0, .int .u64 0, .int .u64 0, .int .u64 0, .int .u64 0, .int .u64 0, .int .u64 0, .int .u64 0, .int .u64 0, .int .u64 0, .int .u64 0, .int .u64 0, .int .u64 0, .int .u64 0, .int .u64 0, .int .u64 0, .int .u64 0]
  | 128 => some [.pointer none]
  | _ => none

theorem zero_of {t : TypeId} {z : Value} {l : List Value} (h : (Tryd.prog.info? t).map (·.zero) = some (some z)) (hl : z.cells = l.toArray) : Zero Tryd.prog t l := by
  obtain ⟨i, hi, hz⟩ := Option.map_eq_some_iff.1 h
  exact ⟨i, z, hi, hz, hl⟩

theorem zeroT {t : TypeId} {l : List Value} (h : zeroTab t = some l) : Zero Tryd.prog t l := by
  unfold zeroTab at h
  split at h
  · cases h; exact zero_of (z := (.int .i64 0)) (by kernel_rfl) rfl
  · cases h; exact zero_of (z := (.int .i64 0)) (by kernel_rfl) rfl
  · cases h; exact zero_of (z := (.bool false)) (by kernel_rfl) rfl
  · cases h; exact zero_of (z := (.int .u8 0)) (by kernel_rfl) rfl
  · cases h; exact zero_of (z := (.string ⟨[].toArray⟩)) (by kernel_rfl) rfl
  · cases h; exact zero_of (z := (.int .u64 0)) (by kernel_rfl) rfl
  · cases h; exact zero_of (z := (.int .i32 0)) (by kernel_rfl) rfl
  · cases h; exact zero_of (z := (.slice none 0 0)) (by kernel_rfl) rfl
  · cases h; exact zero_of (z := (.int .i64 0)) (by kernel_rfl) rfl
  · cases h; exact zero_of (z := (.agg #[.int .i64 0, .int .i64 0])) (by kernel_rfl) rfl
  · cases h; exact zero_of (z := (.agg #[.int .i64 0, .int .i64 0])) (by kernel_rfl) rfl
  · cases h; exact zero_of (z := (.slice none 0 0)) (by kernel_rfl) rfl
  · cases h; exact zero_of (z := (.int .i32 0)) (by kernel_rfl) rfl
  · cases h; exact zero_of (z := (.agg #[.int .i64 0, .string ⟨[].toArray⟩, .int .i32 0, .int .i64 0, .int .i64 0])) (by kernel_rfl) rfl
  · cases h; exact zero_of (z := (.agg #[.int .i64 0, .string ⟨[].toArray⟩, .int .i32 0, .int .i64 0, .int .i64 0])) (by kernel_rfl) rfl
  · cases h; exact zero_of (z := (.slice none 0 0)) (by kernel_rfl) rfl
  · cases h; exact zero_of (z := (.pointer none)) (by kernel_rfl) rfl
  · cases h; exact zero_of (z := (.map none)) (by kernel_rfl) rfl
  · cases h; exact zero_of (z := (.slice none 0 0)) (by kernel_rfl) rfl
  · cases h; exact zero_of (z := (.agg #[.map none, .slice none 0 0, .slice none 0 0, .int .i64 0])) (by kernel_rfl) rfl
  · cases h; exact zero_of (z := (.agg #[.map none, .slice none 0 0, .slice none 0 0, .int .i64 0])) (by kernel_rfl) rfl
  · cases h; exact zero_of (z := (.agg #[.string ⟨[].toArray⟩, .slice none 0 0])) (by kernel_rfl) rfl
  · cases h; exact zero_of (z := (.agg #[.string ⟨[].toArray⟩, .slice none 0 0])) (by kernel_rfl) rfl
  · cases h; exact zero_of (z := (.slice none 0 0)) (by kernel_rfl) rfl
  · cases h; exact zero_of (z := (.slice none 0 0)) (by kernel_rfl) rfl
  · cases h; exact zero_of (z := (.agg #[.slice none 0 0, .slice none 0 0, .slice none 0 0])) (by kernel_rfl) rfl
  · cases h; exact zero_of (z := (.agg #[.slice none 0 0, .slice none 0 0, .slice none 0 0])) (by kernel_rfl) rfl
  · cases h; exact zero_of (z := (.pointer none)) (by kernel_rfl) rfl
  · cases h; exact zero_of (z := (.agg #[.string ⟨[].toArray⟩, .int .i64 0, .int .i64 0])) (by kernel_rfl) rfl
  · cases h; exact zero_of (z := (.agg #[.string ⟨[].toArray⟩, .int .i64 0, .int .i64 0])) (by kernel_rfl) rfl
  · cases h; exact zero_of (z := (.agg #[.bool false, .bool false, .bool false])) (by kernel_rfl) rfl
  · cases h; exact zero_of (z := (.agg #[.bool false, .bool false, .bool false])) (by kernel_rfl) rfl
  · cases h; exact zero_of (z := (.map none)) (by kernel_rfl) rfl
  · cases h; exact zero_of (z := (.agg #[.bool false, .bool false, .bool false])) (by kernel_rfl) rfl
  · cases h; exact zero_of (z := (.agg #[.bool false, .bool false, .bool false])) (by kernel_rfl) rfl
  · cases h; exact zero_of (z := (.slice none 0 0)) (by kernel_rfl) rfl
  · cases h; exact zero_of (z := (.agg #[.string ⟨[].toArray⟩, .string ⟨[].toArray⟩, .string ⟨[].toArray⟩, .string ⟨[].toArray⟩, .string ⟨[].toArray⟩, .string ⟨[].toArray⟩, .string ⟨[].toArray⟩, .string ⟨[].toArray⟩, .string ⟨[].toArray⟩, .string ⟨[].toArray⟩, .string ⟨[].toArray⟩, .string ⟨[].toArray⟩, .string ⟨[].toArray⟩])) (by kernel_rfl) rfl
  · cases h; exact zero_of (z := (.int .u64 0)) (by kernel_rfl) rfl
  · cases h; exact zero_of (z := (.int .u64 0)) (by kernel_rfl) rfl
  · cases h; exact zero_of (z := (.int .u32 0)) (by kernel_rfl) rfl
  · cases h; exact zero_of (z := (.agg #[.int .u64 0, .int .u64 0, .int .u64 0, .int .u64 0, .int .u64 0, .int .u64 0, .int .u64 0, .int .u64 0, .int .u64 0, .int .u64 0, .int .u64 0, .int .u64 0, .int .u64 0, .int .u64 0, .int .u64 0, .int .u64 0, .int .u64 0, .int .u64 0, .int .u64 0, .int .u64 0])) (by kernel_rfl) rfl
  · cases h; exact zero_of (z := (.pointer none)) (by kernel_rfl) rfl
  · cases h

def slTab : TypeId → Option TypeId
  | 23 => some 35
  | 31 => some 23
  | 37 => some 9
  | 44 => some 71
  | 52 => some 51
  | 53 => some 76
  | 87 => some 5
  | _ => none

theorem slT {t e : TypeId} (h : slTab t = some e) : Sl Tryd.prog t e := by
  unfold slTab at h
  split at h
  · cases h; exact Tryd.underlying23
  · cases h; exact Tryd.underlying31
  · cases h; exact Tryd.underlying37
  · cases h; exact Tryd.underlying44
  · cases h; exact Tryd.underlying52
  · cases h; exact Tryd.underlying53
  · cases h; exact Tryd.underlying87
  · cases h

def intTab : TypeId → Option IntKind
  | 2 => some IntKind.i64
  | 3 => some IntKind.i64
  | 5 => some IntKind.u8
  | 12 => some IntKind.u64
  | 21 => some IntKind.i32
  | 24 => some IntKind.i64
  | 33 => some IntKind.i32
  | 95 => some IntKind.u64
  | 102 => some IntKind.u64
  | 107 => some IntKind.u32
  | _ => none

theorem intT {t : TypeId} {k : IntKind} (h : intTab t = some k) : Tryd.prog.underlying t = some (.int k) := by
  unfold intTab at h
  split at h
  · cases h; exact Tryd.underlying2
  · cases h; exact Tryd.underlying3
  · cases h; exact Tryd.underlying5
  · cases h; exact Tryd.underlying12
  · cases h; exact Tryd.underlying21
  · cases h; exact Tryd.underlying24
  · cases h; exact Tryd.underlying33
  · cases h; exact Tryd.underlying95
  · cases h; exact Tryd.underlying102
  · cases h; exact Tryd.underlying107
  · cases h

def strTab : TypeId → Option Unit
  | 9 => some ()
  | _ => none

theorem strT {t : TypeId} (h : strTab t = some ()) : Tryd.prog.underlying t = some .string := by
  unfold strTab at h
  split at h
  · exact Tryd.underlying9
  · cases h

theorem dT {t : TypeId} {k : IntKind} (h : intTab t = some k) : ∃ d, Tryd.prog.underlying t = some d := ⟨_, intT h⟩

def fldTab : TypeId → Nat → Option (Nat × TypeId)
  | 25, 0 => some (0, 24)
  | 25, 1 => some (1, 3)
  | 26, 0 => some (0, 24)
  | 26, 1 => some (1, 3)
  | 34, 0 => some (0, 3)
  | 34, 1 => some (1, 9)
  | 34, 2 => some (2, 33)
  | 34, 3 => some (3, 3)
  | 34, 4 => some (4, 3)
  | 35, 0 => some (0, 3)
  | 35, 1 => some (1, 9)
  | 35, 2 => some (2, 33)
  | 35, 3 => some (3, 3)
  | 35, 4 => some (4, 3)
  | 45, 0 => some (0, 43)
  | 45, 1 => some (1, 44)
  | 45, 2 => some (2, 23)
  | 45, 3 => some (3, 3)
  | 46, 0 => some (0, 43)
  | 46, 1 => some (1, 44)
  | 46, 2 => some (2, 23)
  | 46, 3 => some (3, 3)
  | 50, 0 => some (0, 9)
  | 50, 1 => some (1, 23)
  | 51, 0 => some (0, 9)
  | 51, 1 => some (1, 23)
  | 54, 0 => some (0, 52)
  | 54, 1 => some (1, 53)
  | 54, 2 => some (2, 23)
  | 55, 0 => some (0, 52)
  | 55, 1 => some (1, 53)
  | 55, 2 => some (2, 23)
  | 61, 0 => some (0, 9)
  | 61, 1 => some (1, 3)
  | 61, 2 => some (2, 3)
  | 62, 0 => some (0, 9)
  | 62, 1 => some (1, 3)
  | 62, 2 => some (2, 3)
  | 70, 0 => some (0, 4)
  | 70, 1 => some (1, 4)
  | 70, 2 => some (2, 4)
  | 71, 0 => some (0, 4)
  | 71, 1 => some (1, 4)
  | 71, 2 => some (2, 4)
  | 75, 0 => some (0, 4)
  | 75, 1 => some (1, 4)
  | 75, 2 => some (2, 4)
  | 76, 0 => some (0, 4)
  | 76, 1 => some (1, 4)
  | 76, 2 => some (2, 4)
  | _, _ => none

theorem fldT {t f off : Nat} {ft : TypeId} (h : fldTab t f = some (off, ft)) : Fld Tryd.prog t f off ft := by
  unfold fldTab at h
  split at h
  · cases h; exact ⟨_, _, Tryd.underlying25, rfl, rfl, rfl, 0, szT rfl⟩
  · cases h; exact ⟨_, _, Tryd.underlying25, rfl, rfl, rfl, 0, szT rfl⟩
  · cases h; exact ⟨_, _, Tryd.underlying26, rfl, rfl, rfl, 0, szT rfl⟩
  · cases h; exact ⟨_, _, Tryd.underlying26, rfl, rfl, rfl, 0, szT rfl⟩
  · cases h; exact ⟨_, _, Tryd.underlying34, rfl, rfl, rfl, 0, szT rfl⟩
  · cases h; exact ⟨_, _, Tryd.underlying34, rfl, rfl, rfl, 0, szT rfl⟩
  · cases h; exact ⟨_, _, Tryd.underlying34, rfl, rfl, rfl, 0, szT rfl⟩
  · cases h; exact ⟨_, _, Tryd.underlying34, rfl, rfl, rfl, 0, szT rfl⟩
  · cases h; exact ⟨_, _, Tryd.underlying34, rfl, rfl, rfl, 0, szT rfl⟩
  · cases h; exact ⟨_, _, Tryd.underlying35, rfl, rfl, rfl, 0, szT rfl⟩
  · cases h; exact ⟨_, _, Tryd.underlying35, rfl, rfl, rfl, 0, szT rfl⟩
  · cases h; exact ⟨_, _, Tryd.underlying35, rfl, rfl, rfl, 0, szT rfl⟩
  · cases h; exact ⟨_, _, Tryd.underlying35, rfl, rfl, rfl, 0, szT rfl⟩
  · cases h; exact ⟨_, _, Tryd.underlying35, rfl, rfl, rfl, 0, szT rfl⟩
  · cases h; exact ⟨_, _, Tryd.underlying45, rfl, rfl, rfl, 0, szT rfl⟩
  · cases h; exact ⟨_, _, Tryd.underlying45, rfl, rfl, rfl, 0, szT rfl⟩
  · cases h; exact ⟨_, _, Tryd.underlying45, rfl, rfl, rfl, 0, szT rfl⟩
  · cases h; exact ⟨_, _, Tryd.underlying45, rfl, rfl, rfl, 0, szT rfl⟩
  · cases h; exact ⟨_, _, Tryd.underlying46, rfl, rfl, rfl, 0, szT rfl⟩
  · cases h; exact ⟨_, _, Tryd.underlying46, rfl, rfl, rfl, 0, szT rfl⟩
  · cases h; exact ⟨_, _, Tryd.underlying46, rfl, rfl, rfl, 0, szT rfl⟩
  · cases h; exact ⟨_, _, Tryd.underlying46, rfl, rfl, rfl, 0, szT rfl⟩
  · cases h; exact ⟨_, _, Tryd.underlying50, rfl, rfl, rfl, 0, szT rfl⟩
  · cases h; exact ⟨_, _, Tryd.underlying50, rfl, rfl, rfl, 0, szT rfl⟩
  · cases h; exact ⟨_, _, Tryd.underlying51, rfl, rfl, rfl, 0, szT rfl⟩
  · cases h; exact ⟨_, _, Tryd.underlying51, rfl, rfl, rfl, 0, szT rfl⟩
  · cases h; exact ⟨_, _, Tryd.underlying54, rfl, rfl, rfl, 0, szT rfl⟩
  · cases h; exact ⟨_, _, Tryd.underlying54, rfl, rfl, rfl, 0, szT rfl⟩
  · cases h; exact ⟨_, _, Tryd.underlying54, rfl, rfl, rfl, 0, szT rfl⟩
  · cases h; exact ⟨_, _, Tryd.underlying55, rfl, rfl, rfl, 0, szT rfl⟩
  · cases h; exact ⟨_, _, Tryd.underlying55, rfl, rfl, rfl, 0, szT rfl⟩
  · cases h; exact ⟨_, _, Tryd.underlying55, rfl, rfl, rfl, 0, szT rfl⟩
  · cases h; exact ⟨_, _, Tryd.underlying61, rfl, rfl, rfl, 0, szT rfl⟩
  · cases h; exact ⟨_, _, Tryd.underlying61, rfl, rfl, rfl, 0, szT rfl⟩
  · cases h; exact ⟨_, _, Tryd.underlying61, rfl, rfl, rfl, 0, szT rfl⟩
  · cases h; exact ⟨_, _, Tryd.underlying62, rfl, rfl, rfl, 0, szT rfl⟩
  · cases h; exact ⟨_, _, Tryd.underlying62, rfl, rfl, rfl, 0, szT rfl⟩
  · cases h; exact ⟨_, _, Tryd.underlying62, rfl, rfl, rfl, 0, szT rfl⟩
  · cases h; exact ⟨_, _, Tryd.underlying70, rfl, rfl, rfl, 0, szT rfl⟩
  · cases h; exact ⟨_, _, Tryd.underlying70, rfl, rfl, rfl, 0, szT rfl⟩
  · cases h; exact ⟨_, _, Tryd.underlying70, rfl, rfl, rfl, 0, szT rfl⟩
  · cases h; exact ⟨_, _, Tryd.underlying71, rfl, rfl, rfl, 0, szT rfl⟩
  · cases h; exact ⟨_, _, Tryd.underlying71, rfl, rfl, rfl, 0, szT rfl⟩
  · cases h; exact ⟨_, _, Tryd.underlying71, rfl, rfl, rfl, 0, szT rfl⟩
  · cases h; exact ⟨_, _, Tryd.underlying75, rfl, rfl, rfl, 0, szT rfl⟩
  · cases h; exact ⟨_, _, Tryd.underlying75, rfl, rfl, rfl, 0, szT rfl⟩
  · cases h; exact ⟨_, _, Tryd.underlying75, rfl, rfl, rfl, 0, szT rfl⟩
  · cases h; exact ⟨_, _, Tryd.underlying76, rfl, rfl, rfl, 0, szT rfl⟩
  · cases h; exact ⟨_, _, Tryd.underlying76, rfl, rfl, rfl, 0, szT rfl⟩
  · cases h; exact ⟨_, _, Tryd.underlying76, rfl, rfl, rfl, 0, szT rfl⟩
  · cases h

def bldTab : TypeId → Option (List Value × List (Nat × Nat))
  | 25 => some ([.int .i64 0, .int .i64 0], [(0, 1), (1, 1)])
  | 26 => some ([.int .i64 0, .int .i64 0], [(0, 1), (1, 1)])
  | 34 => some ([.int .i64 0, .string ⟨[].toArray⟩, .int .i32 0, .int .i64 0, .int .i64 0], [(0, 1), (1, 1), (2, 1), (3, 1), (4, 1)])
  | 35 => some ([.int .i64 0, .string ⟨[].toArray⟩, .int .i32 0, .int .i64 0, .int .i64 0], [(0, 1), (1, 1), (2, 1), (3, 1), (4, 1)])
  | 45 => some ([.map none, .slice none 0 0, .slice none 0 0, .int .i64 0], [(0, 1), (1, 1), (2, 1), (3, 1)])
  | 46 => some ([.map none, .slice none 0 0, .slice none 0 0, .int .i64 0], [(0, 1), (1, 1), (2, 1), (3, 1)])
  | 50 => some ([.string ⟨[].toArray⟩, .slice none 0 0], [(0, 1), (1, 1)])
  | 51 => some ([.string ⟨[].toArray⟩, .slice none 0 0], [(0, 1), (1, 1)])
  | 54 => some ([.slice none 0 0, .slice none 0 0, .slice none 0 0], [(0, 1), (1, 1), (2, 1)])
  | 55 => some ([.slice none 0 0, .slice none 0 0, .slice none 0 0], [(0, 1), (1, 1), (2, 1)])
  | 61 => some ([.string ⟨[].toArray⟩, .int .i64 0, .int .i64 0], [(0, 1), (1, 1), (2, 1)])
  | 62 => some ([.string ⟨[].toArray⟩, .int .i64 0, .int .i64 0], [(0, 1), (1, 1), (2, 1)])
  | 70 => some ([.bool false, .bool false, .bool false], [(0, 1), (1, 1), (2, 1)])
  | 71 => some ([.bool false, .bool false, .bool false], [(0, 1), (1, 1), (2, 1)])
  | 75 => some ([.bool false, .bool false, .bool false], [(0, 1), (1, 1), (2, 1)])
  | 76 => some ([.bool false, .bool false, .bool false], [(0, 1), (1, 1), (2, 1)])
  | 89 => some ([.string ⟨[].toArray⟩, .string ⟨[].toArray⟩, .string ⟨[].toArray⟩, .string ⟨[].toArray⟩, .string ⟨[].toArray⟩, .string ⟨[].toArray⟩, .string ⟨[].toArray⟩, .string ⟨[].toArray⟩, .string ⟨[].toArray⟩, .string ⟨[].toArray⟩, .string ⟨[].toArray⟩, .string ⟨[].toArray⟩, .string ⟨[].toArray⟩], [(0, 1), (1, 1), (2, 1), (3, 1), (4, 1), (5, 1), (6, 1), (7, 1), (8, 1), (9, 1), (10, 1), (11, 1), (12, 1)])
  | 112 => some ([.int .u64 0, .int .u64 0, .int .u64 0, .int .u64 0, .int .u64 0, .int .u64 0, .int .u64 0, .int .u64 0, .int .u64 0, .int .u64 0, .int .u64 0, .int .u64 0, .int .u64 0, .int .u64 0, .int .u64 0, .int .u64 0, .int .u64 0, .int .u64 0, .int .u64 0, .int .u64 0], [(0, 1), (1, 1), (2, 1), (3, 1), (4, 1), (5, 1), (6, 1), (7, 1), (8, 1), (9, 1), (10, 1), (11, 1), (12, 1), (13, 1), (14, 1), (15, 1), (16, 1), (17, 1), (18, 1), (19, 1)])
  | _ => none

theorem bldT {t : TypeId} {z : List Value} {pl : List (Nat × Nat)} (h : bldTab t = some (z, pl)) : Bld Tryd.prog t z pl := by
  unfold bldTab at h
  split at h
  · cases h; exact ⟨zeroT rfl, .inl ⟨_, Tryd.underlying25, by kernel_rfl⟩⟩
  · cases h; exact ⟨zeroT rfl, .inl ⟨_, Tryd.underlying26, by kernel_rfl⟩⟩
  · cases h; exact ⟨zeroT rfl, .inl ⟨_, Tryd.underlying34, by kernel_rfl⟩⟩
  · cases h; exact ⟨zeroT rfl, .inl ⟨_, Tryd.underlying35, by kernel_rfl⟩⟩
  · cases h; exact ⟨zeroT rfl, .inl ⟨_, Tryd.underlying45, by kernel_rfl⟩⟩
  · cases h; exact ⟨zeroT rfl, .inl ⟨_, Tryd.underlying46, by kernel_rfl⟩⟩
  · cases h; exact ⟨zeroT rfl, .inl ⟨_, Tryd.underlying50, by kernel_rfl⟩⟩
  · cases h; exact ⟨zeroT rfl, .inl ⟨_, Tryd.underlying51, by kernel_rfl⟩⟩
  · cases h; exact ⟨zeroT rfl, .inl ⟨_, Tryd.underlying54, by kernel_rfl⟩⟩
  · cases h; exact ⟨zeroT rfl, .inl ⟨_, Tryd.underlying55, by kernel_rfl⟩⟩
  · cases h; exact ⟨zeroT rfl, .inl ⟨_, Tryd.underlying61, by kernel_rfl⟩⟩
  · cases h; exact ⟨zeroT rfl, .inl ⟨_, Tryd.underlying62, by kernel_rfl⟩⟩
  · cases h; exact ⟨zeroT rfl, .inl ⟨_, Tryd.underlying70, by kernel_rfl⟩⟩
  · cases h; exact ⟨zeroT rfl, .inl ⟨_, Tryd.underlying71, by kernel_rfl⟩⟩
  · cases h; exact ⟨zeroT rfl, .inl ⟨_, Tryd.underlying75, by kernel_rfl⟩⟩
  · cases h; exact ⟨zeroT rfl, .inl ⟨_, Tryd.underlying76, by kernel_rfl⟩⟩
  · cases h; exact ⟨zeroT rfl, .inr ⟨_, _, _, Tryd.underlying89, szT rfl, by decide⟩⟩
  · cases h; exact ⟨zeroT rfl, .inr ⟨_, _, _, Tryd.underlying112, szT rfl, by decide⟩⟩
  · cases h

def mpTab : TypeId → Option (TypeId × TypeId)
  | 43 => some (9, 23)
  | 74 => some (9, 4)
  | _ => none

theorem mpT {t k e : TypeId} (h : mpTab t = some (k, e)) : Mp Tryd.prog t k e := by
  unfold mpTab at h
  split at h
  · cases h; exact ⟨Tryd.underlying43, Tryd.underlying9⟩
  · cases h; exact ⟨Tryd.underlying74, Tryd.underlying9⟩
  · cases h

def flatTab : TypeId → Option (List Nat)
  | 25 => some [0, 0]
  | 26 => some [0, 0]
  | 34 => some [0, 1, 0, 0, 0]
  | 35 => some [0, 1, 0, 0, 0]
  | 61 => some [1, 0, 0]
  | 62 => some [1, 0, 0]
  | 70 => some [2, 2, 2]
  | 71 => some [2, 2, 2]
  | 75 => some [2, 2, 2]
  | 76 => some [2, 2, 2]
  | _ => none

theorem flatT {t : TypeId} {ks : List Nat} (h : flatTab t = some ks) : Flat Tryd.prog t ks := by
  unfold flatTab at h
  split at h
  · cases h; exact ⟨⟨_, Tryd.underlying25, ⟨by decide, rfl, ⟨_, Tryd.underlying24⟩, ⟨by decide, rfl, ⟨_, Tryd.underlying3⟩, trivial⟩⟩⟩, by kernel_rfl, by kernel_rfl⟩
  · cases h; exact ⟨⟨_, Tryd.underlying26, ⟨by decide, rfl, ⟨_, Tryd.underlying24⟩, ⟨by decide, rfl, ⟨_, Tryd.underlying3⟩, trivial⟩⟩⟩, by kernel_rfl, by kernel_rfl⟩
  · cases h; exact ⟨⟨_, Tryd.underlying34, ⟨by decide, rfl, ⟨_, Tryd.underlying3⟩, ⟨by decide, rfl, Tryd.underlying9, ⟨by decide, rfl, ⟨_, Tryd.underlying33⟩, ⟨by decide, rfl, ⟨_, Tryd.underlying3⟩, ⟨by decide, rfl, ⟨_, Tryd.underlying3⟩, trivial⟩⟩⟩⟩⟩⟩, by kernel_rfl, by kernel_rfl⟩
  · cases h; exact ⟨⟨_, Tryd.underlying35, ⟨by decide, rfl, ⟨_, Tryd.underlying3⟩, ⟨by decide, rfl, Tryd.underlying9, ⟨by decide, rfl, ⟨_, Tryd.underlying33⟩, ⟨by decide, rfl, ⟨_, Tryd.underlying3⟩, ⟨by decide, rfl, ⟨_, Tryd.underlying3⟩, trivial⟩⟩⟩⟩⟩⟩, by kernel_rfl, by kernel_rfl⟩
  · cases h; exact ⟨⟨_, Tryd.underlying61, ⟨by decide, rfl, Tryd.underlying9, ⟨by decide, rfl, ⟨_, Tryd.underlying3⟩, ⟨by decide, rfl, ⟨_, Tryd.underlying3⟩, trivial⟩⟩⟩⟩, by kernel_rfl, by kernel_rfl⟩
  · cases h; exact ⟨⟨_, Tryd.underlying62, ⟨by decide, rfl, Tryd.underlying9, ⟨by decide, rfl, ⟨_, Tryd.underlying3⟩, ⟨by decide, rfl, ⟨_, Tryd.underlying3⟩, trivial⟩⟩⟩⟩, by kernel_rfl, by kernel_rfl⟩
  · cases h; exact ⟨⟨_, Tryd.underlying70, ⟨by decide, rfl, Tryd.underlying4, ⟨by decide, rfl, Tryd.underlying4, ⟨by decide, rfl, Tryd.underlying4, trivial⟩⟩⟩⟩, by kernel_rfl, by kernel_rfl⟩
  · cases h; exact ⟨⟨_, Tryd.underlying71, ⟨by decide, rfl, Tryd.underlying4, ⟨by decide, rfl, Tryd.underlying4, ⟨by decide, rfl, Tryd.underlying4, trivial⟩⟩⟩⟩, by kernel_rfl, by kernel_rfl⟩
  · cases h; exact ⟨⟨_, Tryd.underlying75, ⟨by decide, rfl, Tryd.underlying4, ⟨by decide, rfl, Tryd.underlying4, ⟨by decide, rfl, Tryd.underlying4, trivial⟩⟩⟩⟩, by kernel_rfl, by kernel_rfl⟩
  · cases h; exact ⟨⟨_, Tryd.underlying76, ⟨by decide, rfl, Tryd.underlying4, ⟨by decide, rfl, Tryd.underlying4, ⟨by decide, rfl, Tryd.underlying4, trivial⟩⟩⟩⟩, by kernel_rfl, by kernel_rfl⟩
  · cases h

def arrTab : TypeId → Option (Nat × TypeId)
  | 89 => some (13, 9)
  | 101 => some (24, 5)
  | 112 => some (20, 102)
  | 113 => some (65, 5)
  | 117 => some (32, 5)
  | 118 => some (64, 5)
  | _ => none

theorem arrT {t m e : Nat} (h : arrTab t = some (m, e)) : Tryd.prog.underlying t = some (.array m e) := by
  unfold arrTab at h
  split at h
  · cases h; exact Tryd.underlying89
  · cases h; exact Tryd.underlying101
  · cases h; exact Tryd.underlying112
  · cases h; exact Tryd.underlying113
  · cases h; exact Tryd.underlying117
  · cases h; exact Tryd.underlying118
  · cases h

def boolTab : TypeId → Option Unit
  | 4 => some ()
  | _ => none

theorem boolT {t : TypeId} (h : boolTab t = some ()) : Tryd.prog.underlying t = some .bool := by
  unfold boolTab at h
  split at h
  · exact Tryd.underlying4
  · cases h

theorem mixed : Tryd.prog.follows .mixedOrders = true := by kernel_rfl

theorem has9 : Has Tryd.prog 9 := ⟨_, _, Tryd.func9, rfl, by kernel_rfl⟩
theorem has10 : Has Tryd.prog 10 := ⟨_, _, Tryd.func10, rfl, by kernel_rfl⟩
theorem has11 : Has Tryd.prog 11 := ⟨_, _, Tryd.func11, rfl, by kernel_rfl⟩
theorem has12 : Has Tryd.prog 12 := ⟨_, _, Tryd.func12, rfl, by kernel_rfl⟩
theorem has13 : Has Tryd.prog 13 := ⟨_, _, Tryd.func13, rfl, by kernel_rfl⟩
theorem has15 : Has Tryd.prog 15 := ⟨_, _, Tryd.func15, rfl, by kernel_rfl⟩
theorem has17 : Has Tryd.prog 17 := ⟨_, _, Tryd.func17, rfl, by kernel_rfl⟩
theorem has18 : Has Tryd.prog 18 := ⟨_, _, Tryd.func18, rfl, by kernel_rfl⟩
theorem has20 : Has Tryd.prog 20 := ⟨_, _, Tryd.func20, rfl, by kernel_rfl⟩
theorem has21 : Has Tryd.prog 21 := ⟨_, _, Tryd.func21, rfl, by kernel_rfl⟩
theorem has22 : Has Tryd.prog 22 := ⟨_, _, Tryd.func22, rfl, by kernel_rfl⟩
theorem has23 : Has Tryd.prog 23 := ⟨_, _, Tryd.func23, rfl, by kernel_rfl⟩
theorem has24 : Has Tryd.prog 24 := ⟨_, _, Tryd.func24, rfl, by kernel_rfl⟩
theorem has25 : Has Tryd.prog 25 := ⟨_, _, Tryd.func25, rfl, by kernel_rfl⟩
theorem has26 : Has Tryd.prog 26 := ⟨_, _, Tryd.func26, rfl, by kernel_rfl⟩
theorem has27 : Has Tryd.prog 27 := ⟨_, _, Tryd.func27, rfl, by kernel_rfl⟩
theorem has28 : Has Tryd.prog 28 := ⟨_, _, Tryd.func28, rfl, by kernel_rfl⟩
theorem has29 : Has Tryd.prog 29 := ⟨_, _, Tryd.func29, rfl, by kernel_rfl⟩
theorem has30 : Has Tryd.prog 30 := ⟨_, _, Tryd.func30, rfl, by kernel_rfl⟩
theorem has31 : Has Tryd.prog 31 := ⟨_, _, Tryd.func31, rfl, by kernel_rfl⟩
theorem has32 : Has Tryd.prog 32 := ⟨_, _, Tryd.func32, rfl, by kernel_rfl⟩
theorem has33 : Has Tryd.prog 33 := ⟨_, _, Tryd.func33, rfl, by kernel_rfl⟩
theorem has34 : Has Tryd.prog 34 := ⟨_, _, Tryd.func34, rfl, by kernel_rfl⟩
theorem has35 : Has Tryd.prog 35 := ⟨_, _, Tryd.func35, rfl, by kernel_rfl⟩
theorem has36 : Has Tryd.prog 36 := ⟨_, _, Tryd.func36, rfl, by kernel_rfl⟩
theorem has37 : Has Tryd.prog 37 := ⟨_, _, Tryd.func37, rfl, by kernel_rfl⟩
theorem has38 : Has Tryd.prog 38 := ⟨_, _, Tryd.func38, rfl, by kernel_rfl⟩
theorem has39 : Has Tryd.prog 39 := ⟨_, _, Tryd.func39, rfl, by kernel_rfl⟩
theorem has40 : Has Tryd.prog 40 := ⟨_, _, Tryd.func40, rfl, by kernel_rfl⟩
theorem has41 : Has Tryd.prog 41 := ⟨_, _, Tryd.func41, rfl, by kernel_rfl⟩
theorem has42 : Has Tryd.prog 42 := ⟨_, _, Tryd.func42, rfl, by kernel_rfl⟩
theorem has43 : Has Tryd.prog 43 := ⟨_, _, Tryd.func43, rfl, by kernel_rfl⟩
theorem has44 : Has Tryd.prog 44 := ⟨_, _, Tryd.func44, rfl, by kernel_rfl⟩
theorem has45 : Has Tryd.prog 45 := ⟨_, _, Tryd.func45, rfl, by kernel_rfl⟩
theorem has46 : Has Tryd.prog 46 := ⟨_, _, Tryd.func46, rfl, by kernel_rfl⟩
theorem has47 : Has Tryd.prog 47 := ⟨_, _, Tryd.func47, rfl, by kernel_rfl⟩
theorem has48 : Has Tryd.prog 48 := ⟨_, _, Tryd.func48, rfl, by kernel_rfl⟩
theorem has49 : Has Tryd.prog 49 := ⟨_, _, Tryd.func49, rfl, by kernel_rfl⟩
theorem has50 : Has Tryd.prog 50 := ⟨_, _, Tryd.func50, rfl, by kernel_rfl⟩
theorem has51 : Has Tryd.prog 51 := ⟨_, _, Tryd.func51, rfl, by kernel_rfl⟩
theorem has52 : Has Tryd.prog 52 := ⟨_, _, Tryd.func52, rfl, by kernel_rfl⟩
theorem has53 : Has Tryd.prog 53 := ⟨_, _, Tryd.func53, rfl, by kernel_rfl⟩
theorem has54 : Has Tryd.prog 54 := ⟨_, _, Tryd.func54, rfl, by kernel_rfl⟩
theorem has55 : Has Tryd.prog 55 := ⟨_, _, Tryd.func55, rfl, by kernel_rfl⟩
theorem has56 : Has Tryd.prog 56 := ⟨_, _, Tryd.func56, rfl, by kernel_rfl⟩
theorem has57 : Has Tryd.prog 57 := ⟨_, _, Tryd.func57, rfl, by kernel_rfl⟩
theorem has58 : Has Tryd.prog 58 := ⟨_, _, Tryd.func58, rfl, by kernel_rfl⟩
theorem has59 : Has Tryd.prog 59 := ⟨_, _, Tryd.func59, rfl, by kernel_rfl⟩
theorem has60 : Has Tryd.prog 60 := ⟨_, _, Tryd.func60, rfl, by kernel_rfl⟩
theorem has61 : Has Tryd.prog 61 := ⟨_, _, Tryd.func61, rfl, by kernel_rfl⟩
theorem has63 : Has Tryd.prog 63 := ⟨_, _, Tryd.func63, rfl, by kernel_rfl⟩
theorem has64 : Has Tryd.prog 64 := ⟨_, _, Tryd.func64, rfl, by kernel_rfl⟩
theorem has65 : Has Tryd.prog 65 := ⟨_, _, Tryd.func65, rfl, by kernel_rfl⟩
theorem has66 : Has Tryd.prog 66 := ⟨_, _, Tryd.func66, rfl, by kernel_rfl⟩
theorem has69 : Has Tryd.prog 69 := ⟨_, _, Tryd.func69, rfl, by kernel_rfl⟩
theorem has70 : Has Tryd.prog 70 := ⟨_, _, Tryd.func70, rfl, by kernel_rfl⟩
theorem has76 : Has Tryd.prog 76 := ⟨_, _, Tryd.func76, rfl, by kernel_rfl⟩
theorem has77 : Has Tryd.prog 77 := ⟨_, _, Tryd.func77, rfl, by kernel_rfl⟩
theorem has78 : Has Tryd.prog 78 := ⟨_, _, Tryd.func78, rfl, by kernel_rfl⟩
theorem has79 : Has Tryd.prog 79 := ⟨_, _, Tryd.func79, rfl, by kernel_rfl⟩
theorem has80 : Has Tryd.prog 80 := ⟨_, _, Tryd.func80, rfl, by kernel_rfl⟩
theorem has86 : Has Tryd.prog 86 := ⟨_, _, Tryd.func86, rfl, by kernel_rfl⟩
theorem has87 : Has Tryd.prog 87 := ⟨_, _, Tryd.func87, rfl, by kernel_rfl⟩
theorem has88 : Has Tryd.prog 88 := ⟨_, _, Tryd.func88, rfl, by kernel_rfl⟩
end Go.Proofs.YthhfandandfeeaaDoor

