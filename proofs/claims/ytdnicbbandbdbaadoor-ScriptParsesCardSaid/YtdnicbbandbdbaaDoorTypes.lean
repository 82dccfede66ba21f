import Derived.Test.YtdnicbbandbdbaaDoorProg
import Derived.Test.YtdnicbbandbdbaaDoorEng
/- the types' facts, printed by a program of mine (gen.py) off the translation -/
namespace Go.Proofs.YtdnicbbandbdbaaDoor
open Go.PB

def szTab : TypeId → Option Nat
  | 2 => some 1
  | 3 => some 1
  | 4 => some 1
  | 5 => some 1
  | 9 => some 1
  | 12 => some 1
  | 21 => some 1
  | 22 => some 1
  | 24 => some 1
  | 25 => some 3
  | 26 => some 3
  | 29 => some 1
  | 32 => some 1
  | 33 => some 2
  | 34 => some 2
  | 39 => some 1
  | 40 => some 1
  | 41 => some 2
  | 42 => some 2
  | 52 => some 4
  | 53 => some 4
  | 62 => some 32
  | 64 => some 1
  | 66 => some 2
  | 67 => some 2
  | 68 => some 2
  | 70 => some 1
  | 87 => some 1
  | 88 => some 1
  | 89 => some 1
  | 98 => some 1
  | 100 => some 1
  | 111 => some 256
  | 116 => some 1
  | 122 => some 1
  | 124 => some 2
  | 125 => some 1
  | 127 => some 1
  | 134 => some 1
  | 137 => some 1
  | 138 => some 1
  | 141 => some 1
  | 148 => some 24
  | 149 => some 1
  | 159 => some 1
  | 160 => some 1
  | 162 => some 20
  | 163 => some 65
  | 166 => some 1
  | 170 => some 32
  | 171 => some 64
  | _ => none

theorem szT {t : TypeId} {n : Nat} (h : szTab t = some n) : Sz Tryd.prog t n := by
  unfold szTab at h
  split at h <;> first | (cases h; unfold Sz; kernel_rfl) | cases h

def byTab : TypeId → Option Nat
  | 2 => some 8
  | 3 => some 8
  | 4 => some 1
  | 5 => some 1
  | 9 => some 16
  | 12 => some 8
  | 21 => some 4
  | 22 => some 24
  | 24 => some 24
  | 25 => some 40
  | 26 => some 40
  | 29 => some 24
  | 32 => some 8
  | 33 => some 16
  | 34 => some 16
  | 39 => some 24
  | 40 => some 24
  | 41 => some 48
  | 42 => some 48
  | 52 => some 72
  | 53 => some 72
  | 62 => some 512
  | 64 => some 8
  | 66 => some 32
  | 67 => some 32
  | 68 => some 32
  | 70 => some 16
  | 87 => some 8
  | 88 => some 16
  | 89 => some 16
  | 98 => some 8
  | 100 => some 8
  | 111 => some 256
  | 116 => some 8
  | 122 => some 24
  | 124 => some 16
  | 125 => some 4
  | 127 => some 8
  | 134 => some 8
  | 137 => some 24
  | 138 => some 24
  | 141 => some 2
  | 148 => some 24
  | 149 => some 8
  | 159 => some 8
  | 160 => some 8
  | 162 => some 160
  | 163 => some 65
  | 166 => some 8
  | 170 => some 32
  | 171 => some 64
  | _ => none

theorem byT {t : TypeId} {n : Nat} (h : byTab t = some n) : By Tryd.prog t n := by
  unfold byTab at h
  split at h <;> first | (cases h; unfold By; kernel_rfl) | cases h

def agTab : TypeId → Option Bool
  | 2 => some false
  | 3 => some false
  | 4 => some false
  | 5 => some false
  | 9 => some false
  | 12 => some false
  | 21 => some false
  | 22 => some false
  | 24 => some false
  | 25 => some true
  | 26 => some true
  | 29 => some false
  | 32 => some false
  | 33 => some true
  | 34 => some true
  | 39 => some false
  | 40 => some false
  | 41 => some true
  | 42 => some true
  | 52 => some true
  | 53 => some true
  | 62 => some true
  | 64 => some false
  | 66 => some true
  | 67 => some true
  | 68 => some true
  | 70 => some false
  | 87 => some false
  | 88 => some true
  | 89 => some true
  | 98 => some false
  | 100 => some false
  | 111 => some true
  | 116 => some false
  | 122 => some false
  | 124 => some true
  | 125 => some false
  | 127 => some false
  | 134 => some false
  | 137 => some false
  | 138 => some false
  | 141 => some false
  | 148 => some true
  | 149 => some false
  | 159 => some false
  | 160 => some false
  | 162 => some true
  | 163 => some true
  | 166 => some false
  | 170 => some true
  | 171 => some true
  | _ => none

theorem agT {t : TypeId} {b : Bool} (h : agTab t = some b) : Ag Tryd.prog t b := by
  unfold agTab at h
  split at h
  · cases h; exact ⟨_, Tryd.underlying2, rfl⟩
  · cases h; exact ⟨_, Tryd.underlying3, rfl⟩
  · cases h; exact ⟨_, Tryd.underlying4, rfl⟩
  · cases h; exact ⟨_, Tryd.underlying5, rfl⟩
  · cases h; exact ⟨_, Tryd.underlying9, rfl⟩
  · cases h; exact ⟨_, Tryd.underlying12, rfl⟩
  · cases h; exact ⟨_, Tryd.underlying21, rfl⟩
  · cases h; exact ⟨_, Tryd.underlying22, rfl⟩
  · cases h; exact ⟨_, Tryd.underlying24, rfl⟩
  · cases h; exact ⟨_, Tryd.underlying25, rfl⟩
  · cases h; exact ⟨_, Tryd.underlying26, rfl⟩
  · cases h; exact ⟨_, Tryd.underlying29, rfl⟩
  · cases h; exact ⟨_, Tryd.underlying32, rfl⟩
  · cases h; exact ⟨_, Tryd.underlying33, rfl⟩
  · cases h; exact ⟨_, Tryd.underlying34, rfl⟩
  · cases h; exact ⟨_, Tryd.underlying39, rfl⟩
  · cases h; exact ⟨_, Tryd.underlying40, rfl⟩
  · cases h; exact ⟨_, Tryd.underlying41, rfl⟩
  · cases h; exact ⟨_, Tryd.underlying42, rfl⟩
  · cases h; exact ⟨_, Tryd.underlying52, rfl⟩
  · cases h; exact ⟨_, Tryd.underlying53, rfl⟩
  · cases h; exact ⟨_, Tryd.underlying62, rfl⟩
  · cases h; exact ⟨_, Tryd.underlying64, rfl⟩
  · cases h; exact ⟨_, Tryd.underlying66, rfl⟩
  · cases h; exact ⟨_, Tryd.underlying67, rfl⟩
  · cases h; exact ⟨_, Tryd.underlying68, rfl⟩
  · cases h; exact ⟨_, Tryd.underlying70, rfl⟩
  · cases h; exact ⟨_, Tryd.underlying87, rfl⟩
  · cases h; exact ⟨_, Tryd.underlying88, rfl⟩
  · cases h; exact ⟨_, Tryd.underlying89, rfl⟩
  · cases h; exact ⟨_, Tryd.underlying98, rfl⟩
  · cases h; exact ⟨_, Tryd.underlying100, rfl⟩
  · cases h; exact ⟨_, Tryd.underlying111, rfl⟩
  · cases h; exact ⟨_, Tryd.underlying116, rfl⟩
  · cases h; exact ⟨_, Tryd.underlying122, rfl⟩
  · cases h; exact ⟨_, Tryd.underlying124, rfl⟩
  · cases h; exact ⟨_, Tryd.underlying125, rfl⟩
  · cases h; exact ⟨_, Tryd.underlying127, rfl⟩
  · cases h; exact ⟨_, Tryd.underlying134, rfl⟩
  · cases h; exact ⟨_, Tryd.underlying137, rfl⟩
  · cases h; exact ⟨_, Tryd.underlying138, rfl⟩
  · cases h; exact ⟨_, Tryd.underlying141, rfl⟩
  · cases h; exact ⟨_, Tryd.underlying148, rfl⟩
  · cases h; exact ⟨_, Tryd.underlying149, rfl⟩
  · cases h; exact ⟨_, Tryd.underlying159, rfl⟩
  · cases h; exact ⟨_, Tryd.underlying160, rfl⟩
  · cases h; exact ⟨_, Tryd.underlying162, rfl⟩
  · cases h; exact ⟨_, Tryd.underlying163, rfl⟩
  · cases h; exact ⟨_, Tryd.underlying166, rfl⟩
  · cases h; exact ⟨_, Tryd.underlying170, rfl⟩
  · cases h; exact ⟨_, Tryd.underlying171, rfl⟩
  · cases h

def zeroTab : TypeId → Option (List Value)
  | 2 => some [.int .i64 0]
  | 3 => some [.int .i64 0]
  | 4 => some [.bool false]
  | 5 => some [.int .u8 0]
  | 9 => some [.string ⟨[].toArray⟩]
  | 12 => some [.int .u64 0]
  | 21 => some [.int .i32 0]
  | 22 => some [.slice none 0 0]
  | 24 => some [.slice none 0 0]
  | 25 => some [.int .i64 0, .int .i64 0, .slice none 0 0]
  | 26 => some [.int .i64 0, .int .i64 0, .slice none 0 0]
  | 29 => some [.slice none 0 0]
  | 32 => some [.int .i64 0]
  | 33 => some [.int .i64 0, .int .i64 0]
  | 34 => some [.int .i64 0, .int .i64 0]
  | 39 => some [.slice none 0 0]
  | 40 => some [.slice none 0 0]
  | 41 => some [.slice none 0 0, .slice none 0 0]
  | 42 => some [.slice none 0 0, .slice none 0 0]
  | 52 => some [.int .i64 0, .slice none 0 0, .slice none 0 0, .string ⟨[].toArray⟩]
  | 53 => some [.int .i64 0, .slice none 0 0, .slice none 0 0, .string ⟨[].toArray⟩]
  | 64 => some [.pointer none]
  | 66 => some [.pointer none, .slice none 0 0]
  | 67 => some [.pointer none, .slice none 0 0]
  | 68 => some [.pointer none, .slice none 0 0]
  | 70 => some [.nilIface]
  | 87 => some [.pointer none]
  | 88 => some [.string ⟨[].toArray⟩]
  | 89 => some [.string ⟨[].toArray⟩]
  | 98 => some [.pointer none]
  | 100 => some [.pointer none]
  | 116 => some [.int .u64 0]
  | 122 => some [.slice none 0 0]
  | 124 => some [.int .i64 0, .int .i64 0]
  | 125 => some [.int .u32 0]
  | 127 => some [.pointer none]
  | 134 => some [.pointer none]
  | 137 => some [.slice none 0 0]
  | 138 => some [.slice none 0 0]
  | 141 => some [.int .u16 0]
  | 149 => some [.int .u64 0]
  | 159 => some [.pointer none]
  | 160 => some [.pointer none]
  | 162 => some [.int .u64 0, .int .u64 0, .int .u64 0, .int .u64 0, .int .u64 0, .int .u64 0, .int .u64 0, .int .u64 0, .int .u64 0, .int .u64 0, .int .u64 0, .int .u64 0, .int .u64 0, .int .u64 0, .int .u64 0, .int .u64 0, .int .u64 0, .int .u64 0, .int .u64 0, .int .u64 0]
  | 166 => some [.pointer none]
  | _ => none

theorem zero_of {t : TypeId} {z : Value} {l : List Value} (h : (Tryd.prog.info? t).map (·.zero) = some (some z)) (hl : z.cells = l.toArray) : Zero Tryd.prog t l := by
  obtain ⟨i, hi, hz⟩ := Option.map_eq_some_iff.1 h
  exact ⟨i, z, hi, hz, hl⟩

theorem zeroT {t : TypeId} {l : List Value} (h : zeroTab t = some l) : Zero Tryd.prog t l := by
  unfold zeroTab at h
  split at h
  · cases h; exact zero_of (z := (.int .i64 0)) (by kernel_rfl) rfl
  · cases h; exact zero_of (z := (.int .i64 0)) (by kernel_rfl) rfl
  · cases h; exact zero_of (z := (.bool false)) (by kernel_rfl) rfl
  · cases h; exact zero_of (z := (.int .u8 0)) (by kernel_rfl) rfl
  · cases h; exact zero_of (z := (.string ⟨[].toArray⟩)) (by kernel_rfl) rfl
  · cases h; exact zero_of (z := (.int .u64 0)) (by kernel_rfl) rfl
  · cases h; exact zero_of (z := (.int .i32 0)) (by kernel_rfl) rfl
  · cases h; exact zero_of (z := (.slice none 0 0)) (by kernel_rfl) rfl
  · cases h; exact zero_of (z := (.slice none 0 0)) (by kernel_rfl) rfl
  · cases h; exact zero_of (z := (.agg #[.int .i64 0, .int .i64 0, .slice none 0 0])) (by kernel_rfl) rfl
  · cases h; exact zero_of (z := (.agg #[.int .i64 0, .int .i64 0, .slice none 0 0])) (by kernel_rfl) rfl
  · cases h; exact zero_of (z := (.slice none 0 0)) (by kernel_rfl) rfl
  · cases h; exact zero_of (z := (.int .i64 0)) (by kernel_rfl) rfl
  · cases h; exact zero_of (z := (.agg #[.int .i64 0, .int .i64 0])) (by kernel_rfl) rfl
  · cases h; exact zero_of (z := (.agg #[.int .i64 0, .int .i64 0])) (by kernel_rfl) rfl
  · cases h; exact zero_of (z := (.slice none 0 0)) (by kernel_rfl) rfl
  · cases h; exact zero_of (z := (.slice none 0 0)) (by kernel_rfl) rfl
  · cases h; exact zero_of (z := (.agg #[.slice none 0 0, .slice none 0 0])) (by kernel_rfl) rfl
  · cases h; exact zero_of (z := (.agg #[.slice none 0 0, .slice none 0 0])) (by kernel_rfl) rfl
  · cases h; exact zero_of (z := (.agg #[.int .i64 0, .slice none 0 0, .slice none 0 0, .string ⟨[].toArray⟩])) (by kernel_rfl) rfl
  · cases h; exact zero_of (z := (.agg #[.int .i64 0, .slice none 0 0, .slice none 0 0, .string ⟨[].toArray⟩])) (by kernel_rfl) rfl
  · cases h; exact zero_of (z := (.pointer none)) (by kernel_rfl) rfl
  · cases h; exact zero_of (z := (.agg #[.pointer none, .slice none 0 0])) (by kernel_rfl) rfl
  · cases h; exact zero_of (z := (.agg #[.pointer none, .slice none 0 0])) (by kernel_rfl) rfl
  · cases h; exact zero_of (z := (.agg #[.pointer none, .slice none 0 0])) (by kernel_rfl) rfl
  · cases h; exact zero_of (z := (.nilIface)) (by kernel_rfl) rfl
  · cases h; exact zero_of (z := (.pointer none)) (by kernel_rfl) rfl
  · cases h; exact zero_of (z := (.agg #[.string ⟨[].toArray⟩])) (by kernel_rfl) rfl
  · cases h; exact zero_of (z := (.agg #[.string ⟨[].toArray⟩])) (by kernel_rfl) rfl
  · cases h; exact zero_of (z := (.pointer none)) (by kernel_rfl) rfl
  · cases h; exact zero_of (z := (.pointer none)) (by kernel_rfl) rfl
  · cases h; exact zero_of (z := (.int .u64 0)) (by kernel_rfl) rfl
  · cases h; exact zero_of (z := (.slice none 0 0)) (by kernel_rfl) rfl
  · cases h; exact zero_of (z := (.agg #[.int .i64 0, .int .i64 0])) (by kernel_rfl) rfl
  · cases h; exact zero_of (z := (.int .u32 0)) (by kernel_rfl) rfl
  · cases h; exact zero_of (z := (.pointer none)) (by kernel_rfl) rfl
  · cases h; exact zero_of (z := (.pointer none)) (by kernel_rfl) rfl
  · cases h; exact zero_of (z := (.slice none 0 0)) (by kernel_rfl) rfl
  · cases h; exact zero_of (z := (.slice none 0 0)) (by kernel_rfl) rfl
  · cases h; exact zero_of (z := (.int .u16 0)) (by kernel_rfl) rfl
  · cases h; exact zero_of (z := (.int .u64 0)) (by kernel_rfl) rfl
  · cases h; exact zero_of (z := (.pointer none)) (by kernel_rfl) rfl
  · cases h; exact zero_of (z := (.pointer none)) (by kernel_rfl) rfl
  · cases h; exact zero_of (z := (.agg #[.int .u64 0, .int .u64 0, .int .u64 0, .int .u64 0, .int .u64 0, .int .u64 0, .int .u64 0, .int .u64 0, .int .u64 0, .int .u64 0, .int .u64 0, .int .u64 0, .int .u64 0, .int .u64 0, .int .u64 0, .int .u64 0, .int .u64 0, .int .u64 0, .int .u64 0, .int .u64 0])) (by kernel_rfl) rfl
  · cases h; exact zero_of (z := (.pointer none)) (by kernel_rfl) rfl
  · cases h

def slTab : TypeId → Option TypeId
  | 22 => some 26
  | 24 => some 53
  | 29 => some 9
  | 39 => some 3
  | 40 => some 5
  | 122 => some 124
  | 137 => some 143
  | 138 => some 146
  | _ => none

theorem slT {t e : TypeId} (h : slTab t = some e) : Sl Tryd.prog t e := by
  unfold slTab at h
  split at h
  · cases h; exact Tryd.underlying22
  · cases h; exact Tryd.underlying24
  · cases h; exact Tryd.underlying29
  · cases h; exact Tryd.underlying39
  · cases h; exact Tryd.underlying40
  · cases h; exact Tryd.underlying122
  · cases h; exact Tryd.underlying137
  · cases h; exact Tryd.underlying138
  · cases h

def intTab : TypeId → Option IntKind
  | 2 => some IntKind.i64
  | 3 => some IntKind.i64
  | 5 => some IntKind.u8
  | 12 => some IntKind.u64
  | 21 => some IntKind.i32
  | 32 => some IntKind.i64
  | 116 => some IntKind.u64
  | 125 => some IntKind.u32
  | 141 => some IntKind.u16
  | 149 => some IntKind.u64
  | _ => none

theorem intT {t : TypeId} {k : IntKind} (h : intTab t = some k) : Tryd.prog.underlying t = some (.int k) := by
  unfold intTab at h
  split at h
  · cases h; exact Tryd.underlying2
  · cases h; exact Tryd.underlying3
  · cases h; exact Tryd.underlying5
  · cases h; exact Tryd.underlying12
  · cases h; exact Tryd.underlying21
  · cases h; exact Tryd.underlying32
  · cases h; exact Tryd.underlying116
  · cases h; exact Tryd.underlying125
  · cases h; exact Tryd.underlying141
  · cases h; exact Tryd.underlying149
  · cases h

def strTab : TypeId → Option Unit
  | 9 => some ()
  | _ => none

theorem strT {t : TypeId} (h : strTab t = some ()) : Tryd.prog.underlying t = some .string := by
  unfold strTab at h
  split at h
  · exact Tryd.underlying9
  · cases h

theorem dT {t : TypeId} {k : IntKind} (h : intTab t = some k) : ∃ d, Tryd.prog.underlying t = some d := ⟨_, intT h⟩

def fldTab : TypeId → Nat → Option (Nat × TypeId)
  | 25, 0 => some (0, 3)
  | 25, 1 => some (1, 3)
  | 25, 2 => some (2, 24)
  | 26, 0 => some (0, 3)
  | 26, 1 => some (1, 3)
  | 26, 2 => some (2, 24)
  | 33, 0 => some (0, 32)
  | 33, 1 => some (1, 3)
  | 34, 0 => some (0, 32)
  | 34, 1 => some (1, 3)
  | 41, 0 => some (0, 39)
  | 41, 1 => some (1, 40)
  | 42, 0 => some (0, 39)
  | 42, 1 => some (1, 40)
  | 52, 0 => some (0, 3)
  | 52, 1 => some (1, 39)
  | 52, 2 => some (2, 40)
  | 52, 3 => some (3, 9)
  | 53, 0 => some (0, 3)
  | 53, 1 => some (1, 39)
  | 53, 2 => some (2, 40)
  | 53, 3 => some (3, 9)
  | 66, 0 => some (0, 64)
  | 66, 1 => some (1, 40)
  | 67, 0 => some (0, 66)
  | 68, 0 => some (0, 66)
  | 88, 0 => some (0, 9)
  | 89, 0 => some (0, 9)
  | 124, 0 => some (0, 3)
  | 124, 1 => some (1, 3)
  | _, _ => none

theorem fldT {t f off : Nat} {ft : TypeId} (h : fldTab t f = some (off, ft)) : Fld Tryd.prog t f off ft := by
  unfold fldTab at h
  split at h
  · cases h; exact ⟨_, _, Tryd.underlying25, rfl, rfl, rfl, 0, szT rfl⟩
  · cases h; exact ⟨_, _, Tryd.underlying25, rfl, rfl, rfl, 0, szT rfl⟩
  · cases h; exact ⟨_, _, Tryd.underlying25, rfl, rfl, rfl, 0, szT rfl⟩
  · cases h; exact ⟨_, _, Tryd.underlying26, rfl, rfl, rfl, 0, szT rfl⟩
  · cases h; exact ⟨_, _, Tryd.underlying26, rfl, rfl, rfl, 0, szT rfl⟩
  · cases h; exact ⟨_, _, Tryd.underlying26, rfl, rfl, rfl, 0, szT rfl⟩
  · cases h; exact ⟨_, _, Tryd.underlying33, rfl, rfl, rfl, 0, szT rfl⟩
  · cases h; exact ⟨_, _, Tryd.underlying33, rfl, rfl, rfl, 0, szT rfl⟩
  · cases h; exact ⟨_, _, Tryd.underlying34, rfl, rfl, rfl, 0, szT rfl⟩
  · cases h; exact ⟨_, _, Tryd.underlying34, rfl, rfl, rfl, 0, szT rfl⟩
  · cases h; exact ⟨_, _, Tryd.underlying41, rfl, rfl, rfl, 0, szT rfl⟩
  · cases h; exact ⟨_, _, Tryd.underlying41, rfl, rfl, rfl, 0, szT rfl⟩
  · cases h; exact ⟨_, _, Tryd.underlying42, rfl, rfl, rfl, 0, szT rfl⟩
  · cases h; exact ⟨_, _, Tryd.underlying42, rfl, rfl, rfl, 0, szT rfl⟩
  · cases h; exact ⟨_, _, Tryd.underlying52, rfl, rfl, rfl, 0, szT rfl⟩
  · cases h; exact ⟨_, _, Tryd.underlying52, rfl, rfl, rfl, 0, szT rfl⟩
  · cases h; exact ⟨_, _, Tryd.underlying52, rfl, rfl, rfl, 0, szT rfl⟩
  · cases h; exact ⟨_, _, Tryd.underlying52, rfl, rfl, rfl, 0, szT rfl⟩
  · cases h; exact ⟨_, _, Tryd.underlying53, rfl, rfl, rfl, 0, szT rfl⟩
  · cases h; exact ⟨_, _, Tryd.underlying53, rfl, rfl, rfl, 0, szT rfl⟩
  · cases h; exact ⟨_, _, Tryd.underlying53, rfl, rfl, rfl, 0, szT rfl⟩
  · cases h; exact ⟨_, _, Tryd.underlying53, rfl, rfl, rfl, 0, szT rfl⟩
  · cases h; exact ⟨_, _, Tryd.underlying66, rfl, rfl, rfl, 0, szT rfl⟩
  · cases h; exact ⟨_, _, Tryd.underlying66, rfl, rfl, rfl, 0, szT rfl⟩
  · cases h; exact ⟨_, _, Tryd.underlying67, rfl, rfl, rfl, 1, szT rfl⟩
  · cases h; exact ⟨_, _, Tryd.underlying68, rfl, rfl, rfl, 1, szT rfl⟩
  · cases h; exact ⟨_, _, Tryd.underlying88, rfl, rfl, rfl, 0, szT rfl⟩
  · cases h; exact ⟨_, _, Tryd.underlying89, rfl, rfl, rfl, 0, szT rfl⟩
  · cases h; exact ⟨_, _, Tryd.underlying124, rfl, rfl, rfl, 0, szT rfl⟩
  · cases h; exact ⟨_, _, Tryd.underlying124, rfl, rfl, rfl, 0, szT rfl⟩
  · cases h

def bldTab : TypeId → Option (List Value × List (Nat × Nat))
  | 25 => some ([.int .i64 0, .int .i64 0, .slice none 0 0], [(0, 1), (1, 1), (2, 1)])
  | 26 => some ([.int .i64 0, .int .i64 0, .slice none 0 0], [(0, 1), (1, 1), (2, 1)])
  | 33 => some ([.int .i64 0, .int .i64 0], [(0, 1), (1, 1)])
  | 34 => some ([.int .i64 0, .int .i64 0], [(0, 1), (1, 1)])
  | 41 => some ([.slice none 0 0, .slice none 0 0], [(0, 1), (1, 1)])
  | 42 => some ([.slice none 0 0, .slice none 0 0], [(0, 1), (1, 1)])
  | 52 => some ([.int .i64 0, .slice none 0 0, .slice none 0 0, .string ⟨[].toArray⟩], [(0, 1), (1, 1), (2, 1), (3, 1)])
  | 53 => some ([.int .i64 0, .slice none 0 0, .slice none 0 0, .string ⟨[].toArray⟩], [(0, 1), (1, 1), (2, 1), (3, 1)])
  | 66 => some ([.pointer none, .slice none 0 0], [(0, 1), (1, 1)])
  | 67 => some ([.pointer none, .slice none 0 0], [(0, 2)])
  | 68 => some ([.pointer none, .slice none 0 0], [(0, 2)])
  | 88 => some ([.string ⟨[].toArray⟩], [(0, 1)])
  | 89 => some ([.string ⟨[].toArray⟩], [(0, 1)])
  | 124 => some ([.int .i64 0, .int .i64 0], [(0, 1), (1, 1)])
  | 162 => some ([.int .u64 0, .int .u64 0, .int .u64 0, .int .u64 0, .int .u64 0, .int .u64 0, .int .u64 0, .int .u64 0, .int .u64 0, .int .u64 0, .int .u64 0, .int .u64 0, .int .u64 0, .int .u64 0, .int .u64 0, .int .u64 0, .int .u64 0, .int .u64 0, .int .u64 0, .int .u64 0], [(0, 1), (1, 1), (2, 1), (3, 1), (4, 1), (5, 1), (6, 1), (7, 1), (8, 1), (9, 1), (10, 1), (11, 1), (12, 1), (13, 1), (14, 1), (15, 1), (16, 1), (17, 1), (18, 1), (19, 1)])
  | _ => none

theorem bldT {t : TypeId} {z : List Value} {pl : List (Nat × Nat)} (h : bldTab t = some (z, pl)) : Bld Tryd.prog t z pl := by
  unfold bldTab at h
  split at h
  · cases h; exact ⟨zeroT rfl, .inl ⟨_, Tryd.underlying25, by kernel_rfl⟩⟩
  · cases h; exact ⟨zeroT rfl, .inl ⟨_, Tryd.underlying26, by kernel_rfl⟩⟩
  · cases h; exact ⟨zeroT rfl, .inl ⟨_, Tryd.underlying33, by kernel_rfl⟩⟩
  · cases h; exact ⟨zeroT rfl, .inl ⟨_, Tryd.underlying34, by kernel_rfl⟩⟩
  · cases h; exact ⟨zeroT rfl, .inl ⟨_, Tryd.underlying41, by kernel_rfl⟩⟩
  · cases h; exact ⟨zeroT rfl, .inl ⟨_, Tryd.underlying42, by kernel_rfl⟩⟩
  · cases h; exact ⟨zeroT rfl, .inl ⟨_, Tryd.underlying52, by kernel_rfl⟩⟩
  · cases h; exact ⟨zeroT rfl, .inl ⟨_, Tryd.underlying53, by kernel_rfl⟩⟩
  · cases h; exact ⟨zeroT rfl, .inl ⟨_, Tryd.underlying66, by kernel_rfl⟩⟩
  · cases h; exact ⟨zeroT rfl, .inl ⟨_, Tryd.underlying67, by kernel_rfl⟩⟩
  · cases h; exact ⟨zeroT rfl, .inl ⟨_, Tryd.underlying68, by kernel_rfl⟩⟩
  · cases h; exact ⟨zeroT rfl, .inl ⟨_, Tryd.underlying88, by kernel_rfl⟩⟩
  · cases h; exact ⟨zeroT rfl, .inl ⟨_, Tryd.underlying89, by kernel_rfl⟩⟩
  · cases h; exact ⟨zeroT rfl, .inl ⟨_, Tryd.underlying124, by kernel_rfl⟩⟩
  · cases h; exact ⟨zeroT rfl, .inr ⟨_, _, _, Tryd.underlying162, szT rfl, by decide⟩⟩
  · cases h

def mpTab : TypeId → Option (TypeId × TypeId)
  | _ => none

theorem mpT {t k e : TypeId} (h : mpTab t = some (k, e)) : Mp Tryd.prog t k e := by
  unfold mpTab at h
  split at h
  · cases h

def zeroVTab : TypeId → Option Value
  | 2 => some (.int .i64 0)
  | 3 => some (.int .i64 0)
  | 4 => some (.bool false)
  | 5 => some (.int .u8 0)
  | 9 => some (.string ⟨[].toArray⟩)
  | 12 => some (.int .u64 0)
  | 21 => some (.int .i32 0)
  | 22 => some (.slice none 0 0)
  | 24 => some (.slice none 0 0)
  | 25 => some (.agg #[.int .i64 0, .int .i64 0, .slice none 0 0])
  | 26 => some (.agg #[.int .i64 0, .int .i64 0, .slice none 0 0])
  | 29 => some (.slice none 0 0)
  | 32 => some (.int .i64 0)
  | 33 => some (.agg #[.int .i64 0, .int .i64 0])
  | 34 => some (.agg #[.int .i64 0, .int .i64 0])
  | 39 => some (.slice none 0 0)
  | 40 => some (.slice none 0 0)
  | 41 => some (.agg #[.slice none 0 0, .slice none 0 0])
  | 42 => some (.agg #[.slice none 0 0, .slice none 0 0])
  | 52 => some (.agg #[.int .i64 0, .slice none 0 0, .slice none 0 0, .string ⟨[].toArray⟩])
  | 53 => some (.agg #[.int .i64 0, .slice none 0 0, .slice none 0 0, .string ⟨[].toArray⟩])
  | 64 => some (.pointer none)
  | 66 => some (.agg #[.pointer none, .slice none 0 0])
  | 67 => some (.agg #[.pointer none, .slice none 0 0])
  | 68 => some (.agg #[.pointer none, .slice none 0 0])
  | 70 => some (.nilIface)
  | 87 => some (.pointer none)
  | 88 => some (.agg #[.string ⟨[].toArray⟩])
  | 89 => some (.agg #[.string ⟨[].toArray⟩])
  | 98 => some (.pointer none)
  | 100 => some (.pointer none)
  | 116 => some (.int .u64 0)
  | 122 => some (.slice none 0 0)
  | 124 => some (.agg #[.int .i64 0, .int .i64 0])
  | 125 => some (.int .u32 0)
  | 127 => some (.pointer none)
  | 134 => some (.pointer none)
  | 137 => some (.slice none 0 0)
  | 138 => some (.slice none 0 0)
  | 141 => some (.int .u16 0)
  | 149 => some (.int .u64 0)
  | 159 => some (.pointer none)
  | 160 => some (.pointer none)
  | 162 => some (.agg #[.int .u64 0, .int .u64 0, .int .u64 0, .int .u64 0, .int .u64 0, .int .u64 0, .int .u64 0, .int .u64 0, .int .u64 0, .int .u64 0, .int .u64 0, .int .u64 0, .int .u64 0, .int .u64 0, .int .u64 0, .int .u64 0, .int .u64 0, .int .u64 0, .int .u64 0, .int .u64 0])
  | 166 => some (.pointer none)
  | _ => none

theorem zeroVT {t : TypeId} {v : Value} (h : zeroVTab t = some v) : ZeroV Tryd.prog t v := by
  unfold zeroVTab at h
  split at h <;> first | (cases h; unfold ZeroV; kernel_rfl) | cases h

def flatTab : TypeId → Option (List Nat)
  | 33 => some [0, 0]
  | 34 => some [0, 0]
  | 88 => some [1]
  | 89 => some [1]
  | 124 => some [0, 0]
  | _ => none

theorem flatT {t : TypeId} {ks : List Nat} (h : flatTab t = some ks) : Flat Tryd.prog t ks := by
  unfold flatTab at h
  split at h
  · cases h; exact ⟨⟨_, Tryd.underlying33, ⟨by decide, rfl, ⟨_, Tryd.underlying32⟩, ⟨by decide, rfl, ⟨_, Tryd.underlying3⟩, trivial⟩⟩⟩, by kernel_rfl, by kernel_rfl⟩
  · cases h; exact ⟨⟨_, Tryd.underlying34, ⟨by decide, rfl, ⟨_, Tryd.underlying32⟩, ⟨by decide, rfl, ⟨_, Tryd.underlying3⟩, trivial⟩⟩⟩, by kernel_rfl, by kernel_rfl⟩
  · cases h; exact ⟨⟨_, Tryd.underlying88, ⟨by decide, rfl, Tryd.underlying9, trivial⟩⟩, by kernel_rfl, by kernel_rfl⟩
  · cases h; exact ⟨⟨_, Tryd.underlying89, ⟨by decide, rfl, Tryd.underlying9, trivial⟩⟩, by kernel_rfl, by kernel_rfl⟩
  · cases h; exact ⟨⟨_, Tryd.underlying124, ⟨by decide, rfl, ⟨_, Tryd.underlying3⟩, ⟨by decide, rfl, ⟨_, Tryd.underlying3⟩, trivial⟩⟩⟩, by kernel_rfl, by kernel_rfl⟩
  · cases h

def arrTab : TypeId → Option (Nat × TypeId)
  | 62 => some (32, 9)
  | 111 => some (256, 5)
  | 148 => some (24, 5)
  | 162 => some (20, 149)
  | 163 => some (65, 5)
  | 170 => some (32, 5)
  | 171 => some (64, 5)
  | _ => none

theorem arrT {t m e : Nat} (h : arrTab t = some (m, e)) : Tryd.prog.underlying t = some (.array m e) := by
  unfold arrTab at h
  split at h
  · cases h; exact Tryd.underlying62
  · cases h; exact Tryd.underlying111
  · cases h; exact Tryd.underlying148
  · cases h; exact Tryd.underlying162
  · cases h; exact Tryd.underlying163
  · cases h; exact Tryd.underlying170
  · cases h; exact Tryd.underlying171
  · cases h

def boolTab : TypeId → Option Unit
  | 4 => some ()
  | _ => none

theorem boolT {t : TypeId} (h : boolTab t = some ()) : Tryd.prog.underlying t = some .bool := by
  unfold boolTab at h
  split at h
  · exact Tryd.underlying4
  · cases h

theorem mixed : Tryd.prog.follows .mixedOrders = true := by kernel_rfl

theorem has3 : Has Tryd.prog 3 := ⟨_, _, Tryd.func3, rfl, by kernel_rfl⟩
theorem has4 : Has Tryd.prog 4 := ⟨_, _, Tryd.func4, rfl, by kernel_rfl⟩
theorem has5 : Has Tryd.prog 5 := ⟨_, _, Tryd.func5, rfl, by kernel_rfl⟩
theorem has6 : Has Tryd.prog 6 := ⟨_, _, Tryd.func6, rfl, by kernel_rfl⟩
theorem has7 : Has Tryd.prog 7 := ⟨_, _, Tryd.func7, rfl, by kernel_rfl⟩
theorem has8 : Has Tryd.prog 8 := ⟨_, _, Tryd.func8, rfl, by kernel_rfl⟩
theorem has9 : Has Tryd.prog 9 := ⟨_, _, Tryd.func9, rfl, by kernel_rfl⟩
theorem has10 : Has Tryd.prog 10 := ⟨_, _, Tryd.func10, rfl, by kernel_rfl⟩
theorem has11 : Has Tryd.prog 11 := ⟨_, _, Tryd.func11, rfl, by kernel_rfl⟩
theorem has12 : Has Tryd.prog 12 := ⟨_, _, Tryd.func12, rfl, by kernel_rfl⟩
theorem has13 : Has Tryd.prog 13 := ⟨_, _, Tryd.func13, rfl, by kernel_rfl⟩
theorem has14 : Has Tryd.prog 14 := ⟨_, _, Tryd.func14, rfl, by kernel_rfl⟩
theorem has15 : Has Tryd.prog 15 := ⟨_, _, Tryd.func15, rfl, by kernel_rfl⟩
theorem has16 : Has Tryd.prog 16 := ⟨_, _, Tryd.func16, rfl, by kernel_rfl⟩
theorem has17 : Has Tryd.prog 17 := ⟨_, _, Tryd.func17, rfl, by kernel_rfl⟩
theorem has18 : Has Tryd.prog 18 := ⟨_, _, Tryd.func18, rfl, by kernel_rfl⟩
theorem has19 : Has Tryd.prog 19 := ⟨_, _, Tryd.func19, rfl, by kernel_rfl⟩
theorem has20 : Has Tryd.prog 20 := ⟨_, _, Tryd.func20, rfl, by kernel_rfl⟩
theorem has21 : Has Tryd.prog 21 := ⟨_, _, Tryd.func21, rfl, by kernel_rfl⟩
theorem has22 : Has Tryd.prog 22 := ⟨_, _, Tryd.func22, rfl, by kernel_rfl⟩
theorem has23 : Has Tryd.prog 23 := ⟨_, _, Tryd.func23, rfl, by kernel_rfl⟩
theorem has24 : Has Tryd.prog 24 := ⟨_, _, Tryd.func24, rfl, by kernel_rfl⟩
theorem has25 : Has Tryd.prog 25 := ⟨_, _, Tryd.func25, rfl, by kernel_rfl⟩
theorem has26 : Has Tryd.prog 26 := ⟨_, _, Tryd.func26, rfl, by kernel_rfl⟩
theorem has27 : Has Tryd.prog 27 := ⟨_, _, Tryd.func27, rfl, by kernel_rfl⟩
theorem has28 : Has Tryd.prog 28 := ⟨_, _, Tryd.func28, rfl, by kernel_rfl⟩
theorem has29 : Has Tryd.prog 29 := ⟨_, _, Tryd.func29, rfl, by kernel_rfl⟩
theorem has30 : Has Tryd.prog 30 := ⟨_, _, Tryd.func30, rfl, by kernel_rfl⟩
theorem has31 : Has Tryd.prog 31 := ⟨_, _, Tryd.func31, rfl, by kernel_rfl⟩
theorem has32 : Has Tryd.prog 32 := ⟨_, _, Tryd.func32, rfl, by kernel_rfl⟩
theorem has33 : Has Tryd.prog 33 := ⟨_, _, Tryd.func33, rfl, by kernel_rfl⟩
theorem has34 : Has Tryd.prog 34 := ⟨_, _, Tryd.func34, rfl, by kernel_rfl⟩
theorem has35 : Has Tryd.prog 35 := ⟨_, _, Tryd.func35, rfl, by kernel_rfl⟩
theorem has36 : Has Tryd.prog 36 := ⟨_, _, Tryd.func36, rfl, by kernel_rfl⟩
theorem has37 : Has Tryd.prog 37 := ⟨_, _, Tryd.func37, rfl, by kernel_rfl⟩
theorem has38 : Has Tryd.prog 38 := ⟨_, _, Tryd.func38, rfl, by kernel_rfl⟩
theorem has39 : Has Tryd.prog 39 := ⟨_, _, Tryd.func39, rfl, by kernel_rfl⟩
theorem has40 : Has Tryd.prog 40 := ⟨_, _, Tryd.func40, rfl, by kernel_rfl⟩
theorem has41 : Has Tryd.prog 41 := ⟨_, _, Tryd.func41, rfl, by kernel_rfl⟩
theorem has42 : Has Tryd.prog 42 := ⟨_, _, Tryd.func42, rfl, by kernel_rfl⟩
theorem has43 : Has Tryd.prog 43 := ⟨_, _, Tryd.func43, rfl, by kernel_rfl⟩
theorem has44 : Has Tryd.prog 44 := ⟨_, _, Tryd.func44, rfl, by kernel_rfl⟩
theorem has45 : Has Tryd.prog 45 := ⟨_, _, Tryd.func45, rfl, by kernel_rfl⟩
theorem has46 : Has Tryd.prog 46 := ⟨_, _, Tryd.func46, rfl, by kernel_rfl⟩
theorem has47 : Has Tryd.prog 47 := ⟨_, _, Tryd.func47, rfl, by kernel_rfl⟩
theorem has48 : Has Tryd.prog 48 := ⟨_, _, Tryd.func48, rfl, by kernel_rfl⟩
theorem has49 : Has Tryd.prog 49 := ⟨_, _, Tryd.func49, rfl, by kernel_rfl⟩
theorem has50 : Has Tryd.prog 50 := ⟨_, _, Tryd.func50, rfl, by kernel_rfl⟩
theorem has51 : Has Tryd.prog 51 := ⟨_, _, Tryd.func51, rfl, by kernel_rfl⟩
theorem has52 : Has Tryd.prog 52 := ⟨_, _, Tryd.func52, rfl, by kernel_rfl⟩
theorem has53 : Has Tryd.prog 53 := ⟨_, _, Tryd.func53, rfl, by kernel_rfl⟩
theorem has54 : Has Tryd.prog 54 := ⟨_, _, Tryd.func54, rfl, by kernel_rfl⟩
theorem has55 : Has Tryd.prog 55 := ⟨_, _, Tryd.func55, rfl, by kernel_rfl⟩
theorem has56 : Has Tryd.prog 56 := ⟨_, _, Tryd.func56, rfl, by kernel_rfl⟩
theorem has57 : Has Tryd.prog 57 := ⟨_, _, Tryd.func57, rfl, by kernel_rfl⟩
theorem has59 : Has Tryd.prog 59 := ⟨_, _, Tryd.func59, rfl, by kernel_rfl⟩
theorem has60 : Has Tryd.prog 60 := ⟨_, _, Tryd.func60, rfl, by kernel_rfl⟩
theorem has61 : Has Tryd.prog 61 := ⟨_, _, Tryd.func61, rfl, by kernel_rfl⟩
theorem has62 : Has Tryd.prog 62 := ⟨_, _, Tryd.func62, rfl, by kernel_rfl⟩
theorem has63 : Has Tryd.prog 63 := ⟨_, _, Tryd.func63, rfl, by kernel_rfl⟩
theorem has64 : Has Tryd.prog 64 := ⟨_, _, Tryd.func64, rfl, by kernel_rfl⟩
theorem has65 : Has Tryd.prog 65 := ⟨_, _, Tryd.func65, rfl, by kernel_rfl⟩
theorem has66 : Has Tryd.prog 66 := ⟨_, _, Tryd.func66, rfl, by kernel_rfl⟩
theorem has67 : Has Tryd.prog 67 := ⟨_, _, Tryd.func67, rfl, by kernel_rfl⟩
theorem has68 : Has Tryd.prog 68 := ⟨_, _, Tryd.func68, rfl, by kernel_rfl⟩
theorem has69 : Has Tryd.prog 69 := ⟨_, _, Tryd.func69, rfl, by kernel_rfl⟩
theorem has70 : Has Tryd.prog 70 := ⟨_, _, Tryd.func70, rfl, by kernel_rfl⟩
theorem has71 : Has Tryd.prog 71 := ⟨_, _, Tryd.func71, rfl, by kernel_rfl⟩
theorem has72 : Has Tryd.prog 72 := ⟨_, _, Tryd.func72, rfl, by kernel_rfl⟩
theorem has73 : Has Tryd.prog 73 := ⟨_, _, Tryd.func73, rfl, by kernel_rfl⟩
theorem has74 : Has Tryd.prog 74 := ⟨_, _, Tryd.func74, rfl, by kernel_rfl⟩
theorem has75 : Has Tryd.prog 75 := ⟨_, _, Tryd.func75, rfl, by kernel_rfl⟩
theorem has79 : Has Tryd.prog 79 := ⟨_, _, Tryd.func79, rfl, by kernel_rfl⟩
theorem has80 : Has Tryd.prog 80 := ⟨_, _, Tryd.func80, rfl, by kernel_rfl⟩
theorem has85 : Has Tryd.prog 85 := ⟨_, _, Tryd.func85, rfl, by kernel_rfl⟩
theorem has86 : Has Tryd.prog 86 := ⟨_, _, Tryd.func86, rfl, by kernel_rfl⟩
theorem has87 : Has Tryd.prog 87 := ⟨_, _, Tryd.func87, rfl, by kernel_rfl⟩
theorem has92 : Has Tryd.prog 92 := ⟨_, _, Tryd.func92, rfl, by kernel_rfl⟩
theorem has93 : Has Tryd.prog 93 := ⟨_, _, Tryd.func93, rfl, by kernel_rfl⟩
theorem has94 : Has Tryd.prog 94 := ⟨_, _, Tryd.func94, rfl, by kernel_rfl⟩
theorem has95 : Has Tryd.prog 95 := ⟨_, _, Tryd.func95, rfl, by kernel_rfl⟩
theorem has96 : Has Tryd.prog 96 := ⟨_, _, Tryd.func96, rfl, by kernel_rfl⟩
theorem has104 : Has Tryd.prog 104 := ⟨_, _, Tryd.func104, rfl, by kernel_rfl⟩
end Go.Proofs.YtdnicbbandbdbaaDoor

