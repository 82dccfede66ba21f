import Derived.Test.YtbinaeemcidicaaProg
import Derived.Test.YtbinaeemcidicaaZEng
/- the types' facts, printed by a program of mine (gen.py) off the translation -/
namespace Go.Proofs.Ytbinaeemcidicaa
open Go.PB

def szTab : TypeId → Option Nat
  | 2 => some 1
  | 3 => some 1
  | 4 => some 1
  | 5 => some 1
  | 9 => some 1
  | 12 => some 1
  | 21 => some 1
  | 24 => some 1
  | 25 => some 1
  | 26 => some 2
  | 27 => some 2
  | 30 => some 1
  | 31 => some 1
  | 32 => some 1
  | 35 => some 1
  | 36 => some 1
  | 37 => some 6
  | 38 => some 6
  | 39 => some 1
  | 40 => some 5
  | 41 => some 5
  | 45 => some 14
  | 46 => some 20
  | 49 => some 1
  | 50 => some 3
  | 51 => some 3
  | 58 => some 1
  | 59 => some 2
  | 60 => some 2
  | 62 => some 1
  | 64 => some 1
  | 76 => some 1
  | 77 => some 7
  | 78 => some 7
  | 89 => some 0
  | 90 => some 0
  | 91 => some 1
  | 107 => some 1
  | 110 => some 1
  | 114 => some 1
  | 126 => some 1
  | _ => none

theorem szT {t : TypeId} {n : Nat} (h : szTab t = some n) : Sz Try.prog t n := by
  unfold szTab at h
  split at h <;> first | (cases h; unfold Sz; kernel_rfl) | cases h

def byTab : TypeId → Option Nat
  | 2 => some 8
  | 3 => some 8
  | 4 => some 1
  | 5 => some 1
  | 9 => some 16
  | 12 => some 8
  | 21 => some 4
  | 24 => some 24
  | 25 => some 8
  | 26 => some 16
  | 27 => some 16
  | 30 => some 24
  | 31 => some 24
  | 32 => some 24
  | 35 => some 24
  | 36 => some 4
  | 37 => some 80
  | 38 => some 80
  | 39 => some 8
  | 40 => some 48
  | 41 => some 48
  | 45 => some 224
  | 46 => some 320
  | 49 => some 8
  | 50 => some 32
  | 51 => some 32
  | 58 => some 8
  | 59 => some 32
  | 60 => some 32
  | 62 => some 8
  | 64 => some 8
  | 76 => some 24
  | 77 => some 104
  | 78 => some 104
  | 89 => some 0
  | 90 => some 0
  | 91 => some 24
  | 107 => some 4
  | 110 => some 24
  | 114 => some 24
  | 126 => some 8
  | _ => none

theorem byT {t : TypeId} {n : Nat} (h : byTab t = some n) : By Try.prog t n := by
  unfold byTab at h
  split at h <;> first | (cases h; unfold By; kernel_rfl) | cases h

def agTab : TypeId → Option Bool
  | 2 => some false
  | 3 => some false
  | 4 => some false
  | 5 => some false
  | 9 => some false
  | 12 => some false
  | 21 => some false
  | 24 => some false
  | 25 => some false
  | 26 => some true
  | 27 => some true
  | 30 => some false
  | 31 => some true
  | 32 => some true
  | 35 => some false
  | 36 => some false
  | 37 => some true
  | 38 => some true
  | 39 => some false
  | 40 => some true
  | 41 => some true
  | 45 => some true
  | 46 => some true
  | 49 => some false
  | 50 => some true
  | 51 => some true
  | 58 => some false
  | 59 => some true
  | 60 => some true
  | 62 => some false
  | 64 => some false
  | 76 => some false
  | 77 => some true
  | 78 => some true
  | 89 => some true
  | 90 => some true
  | 91 => some false
  | 107 => some false
  | 110 => some false
  | 114 => some false
  | 126 => some false
  | _ => none

theorem agT {t : TypeId} {b : Bool} (h : agTab t = some b) : Ag Try.prog t b := by
  unfold agTab at h
  split at h
  · cases h; exact ⟨_, Try.underlying2, rfl⟩
  · cases h; exact ⟨_, Try.underlying3, rfl⟩
  · cases h; exact ⟨_, Try.underlying4, rfl⟩
  · cases h; exact ⟨_, Try.underlying5, rfl⟩
  · cases h; exact ⟨_, Try.underlying9, rfl⟩
  · cases h; exact ⟨_, Try.underlying12, rfl⟩
  · cases h; exact ⟨_, Try.underlying21, rfl⟩
  · cases h; exact ⟨_, Try.underlying24, rfl⟩
  · cases h; exact ⟨_, Try.underlying25, rfl⟩
  · cases h; exact ⟨_, Try.underlying26, rfl⟩
  · cases h; exact ⟨_, Try.underlying27, rfl⟩
  · cases h; exact ⟨_, Try.underlying30, rfl⟩
  · cases h; exact ⟨_, Try.underlying31, rfl⟩
  · cases h; exact ⟨_, Try.underlying32, rfl⟩
  · cases h; exact ⟨_, Try.underlying35, rfl⟩
  · cases h; exact ⟨_, Try.underlying36, rfl⟩
  · cases h; exact ⟨_, Try.underlying37, rfl⟩
  · cases h; exact ⟨_, Try.underlying38, rfl⟩
  · cases h; exact ⟨_, Try.underlying39, rfl⟩
  · cases h; exact ⟨_, Try.underlying40, rfl⟩
  · cases h; exact ⟨_, Try.underlying41, rfl⟩
  · cases h; exact ⟨_, Try.underlying45, rfl⟩
  · cases h; exact ⟨_, Try.underlying46, rfl⟩
  · cases h; exact ⟨_, Try.underlying49, rfl⟩
  · cases h; exact ⟨_, Try.underlying50, rfl⟩
  · cases h; exact ⟨_, Try.underlying51, rfl⟩
  · cases h; exact ⟨_, Try.underlying58, rfl⟩
  · cases h; exact ⟨_, Try.underlying59, rfl⟩
  · cases h; exact ⟨_, Try.underlying60, rfl⟩
  · cases h; exact ⟨_, Try.underlying62, rfl⟩
  · cases h; exact ⟨_, Try.underlying64, rfl⟩
  · cases h; exact ⟨_, Try.underlying76, rfl⟩
  · cases h; exact ⟨_, Try.underlying77, rfl⟩
  · cases h; exact ⟨_, Try.underlying78, rfl⟩
  · cases h; exact ⟨_, Try.underlying89, rfl⟩
  · cases h; exact ⟨_, Try.underlying90, rfl⟩
  · cases h; exact ⟨_, Try.underlying91, rfl⟩
  · cases h; exact ⟨_, Try.underlying107, rfl⟩
  · cases h; exact ⟨_, Try.underlying110, rfl⟩
  · cases h; exact ⟨_, Try.underlying114, rfl⟩
  · cases h; exact ⟨_, Try.underlying126, rfl⟩
  · cases h

def zeroTab : TypeId → Option (List Value)
  | 2 => some [.int .i64 0]
  | 3 => some [.int .i64 0]
  | 4 => some [.bool false]
  | 5 => some [.int .u8 0]
  | 9 => some [.string ⟨[].toArray⟩]
  | 12 => some [.int .u64 0]
  | 21 => some [.int .i32 0]
  | 24 => some [.slice none 0 0]
  | 25 => some [.int .i64 0]
  | 26 => some [.int .i64 0, .int .i64 0]
  | 27 => some [.int .i64 0, .int .i64 0]
  | 30 => some [.slice none 0 0]
  | 31 => some [.slice none 0 0]
  | 32 => some [.slice none 0 0]
  | 35 => some [.slice none 0 0]
  | 36 => some [.int .i32 0]
  | 37 => some [.int .i64 0, .string ⟨[].toArray⟩, .string ⟨[].toArray⟩, .int .i32 0, .slice none 0 0, .int .i64 0]
  | 38 => some [.int .i64 0, .string ⟨[].toArray⟩, .string ⟨[].toArray⟩, .int .i32 0, .slice none 0 0, .int .i64 0]
  | 39 => some [.int .u64 0]
  | 40 => some [.int .i64 0, .string ⟨[].toArray⟩, .int .i32 0, .int .i64 0, .int .i64 0]
  | 41 => some [.int .i64 0, .string ⟨[].toArray⟩, .int .i32 0, .int .i64 0, .int .i64 0]
  | 45 => some [.string ⟨[].toArray⟩, .string ⟨[].toArray⟩, .string ⟨[].toArray⟩, .string ⟨[].toArray⟩, .string ⟨[].toArray⟩, .string ⟨[].toArray⟩, .string ⟨[].toArray⟩, .string ⟨[].toArray⟩, .string ⟨[].toArray⟩, .string ⟨[].toArray⟩, .string ⟨[].toArray⟩, .string ⟨[].toArray⟩, .string ⟨[].toArray⟩, .string ⟨[].toArray⟩]
  | 46 => some [.string ⟨[].toArray⟩, .string ⟨[].toArray⟩, .string ⟨[].toArray⟩, .string ⟨[].toArray⟩, .string ⟨[].toArray⟩, .string ⟨[].toArray⟩, .string ⟨[].toArray⟩, .string ⟨[].toArray⟩, .string ⟨[].toArray⟩, .string ⟨[].toArray⟩, .string ⟨[].toArray⟩, .string ⟨[].toArray⟩, .string ⟨[].toArray⟩, .string ⟨[].toArray⟩, .string ⟨[].toArray⟩, .string ⟨[].toArray⟩, .string ⟨[].toArray⟩, .string ⟨[].toArray⟩, .string ⟨[].toArray⟩, .string ⟨[].toArray⟩]
  | 49 => some [.pointer none]
  | 50 => some [.string ⟨[].toArray⟩, .int .i64 0, .int .i64 0]
  | 51 => some [.string ⟨[].toArray⟩, .int .i64 0, .int .i64 0]
  | 58 => some [.pointer none]
  | 59 => some [.slice none 0 0, .int .i64 0]
  | 60 => some [.slice none 0 0, .int .i64 0]
  | 62 => some [.pointer none]
  | 64 => some [.pointer none]
  | 76 => some [.slice none 0 0]
  | 77 => some [.int .i64 0, .string ⟨[].toArray⟩, .string ⟨[].toArray⟩, .int .i32 0, .slice none 0 0, .int .i64 0, .slice none 0 0]
  | 78 => some [.int .i64 0, .string ⟨[].toArray⟩, .string ⟨[].toArray⟩, .int .i32 0, .slice none 0 0, .int .i64 0, .slice none 0 0]
  | 89 => some []
  | 90 => some []
  | 91 => some [.slice none 0 0]
  | 107 => some [.int .u32 0]
  | 110 => some [.slice none 0 0]
  | 114 => some [.slice none 0 0]
  | 126 => some [.pointer none]
  | _ => none

theorem zero_of {t : TypeId} {z : Value} {l : List Value} (h : (Try.prog.info? t).map (·.zero) = some (some z)) (hl : z.cells = l.toArray) : Zero Try.prog t l := by
  obtain ⟨i, hi, hz⟩ := Option.map_eq_some_iff.1 h
  exact ⟨i, z, hi, hz, hl⟩

theorem zeroT {t : TypeId} {l : List Value} (h : zeroTab t = some l) : Zero Try.prog t l := by
  unfold zeroTab at h
  split at h
  · cases h; exact zero_of (z := (.int .i64 0)) (by kernel_rfl) rfl
  · cases h; exact zero_of (z := (.int .i64 0)) (by kernel_rfl) rfl
  · cases h; exact zero_of (z := (.bool false)) (by kernel_rfl) rfl
  · cases h; exact zero_of (z := (.int .u8 0)) (by kernel_rfl) rfl
  · cases h; exact zero_of (z := (.string ⟨[].toArray⟩)) (by kernel_rfl) rfl
  · cases h; exact zero_of (z := (.int .u64 0)) (by kernel_rfl) rfl
  · cases h; exact zero_of (z := (.int .i32 0)) (by kernel_rfl) rfl
  · cases h; exact zero_of (z := (.slice none 0 0)) (by kernel_rfl) rfl
  · cases h; exact zero_of (z := (.int .i64 0)) (by kernel_rfl) rfl
  · cases h; exact zero_of (z := (.agg #[.int .i64 0, .int .i64 0])) (by kernel_rfl) rfl
  · cases h; exact zero_of (z := (.agg #[.int .i64 0, .int .i64 0])) (by kernel_rfl) rfl
  · cases h; exact zero_of (z := (.slice none 0 0)) (by kernel_rfl) rfl
  · cases h; exact zero_of (z := (.agg #[.slice none 0 0])) (by kernel_rfl) rfl
  · cases h; exact zero_of (z := (.agg #[.slice none 0 0])) (by kernel_rfl) rfl
  · cases h; exact zero_of (z := (.slice none 0 0)) (by kernel_rfl) rfl
  · cases h; exact zero_of (z := (.int .i32 0)) (by kernel_rfl) rfl
  · cases h; exact zero_of (z := (.agg #[.int .i64 0, .string ⟨[].toArray⟩, .string ⟨[].toArray⟩, .int .i32 0, .slice none 0 0, .int .i64 0])) (by kernel_rfl) rfl
  · cases h; exact zero_of (z := (.agg #[.int .i64 0, .string ⟨[].toArray⟩, .string ⟨[].toArray⟩, .int .i32 0, .slice none 0 0, .int .i64 0])) (by kernel_rfl) rfl
  · cases h; exact zero_of (z := (.int .u64 0)) (by kernel_rfl) rfl
  · cases h; exact zero_of (z := (.agg #[.int .i64 0, .string ⟨[].toArray⟩, .int .i32 0, .int .i64 0, .int .i64 0])) (by kernel_rfl) rfl
  · cases h; exact zero_of (z := (.agg #[.int .i64 0, .string ⟨[].toArray⟩, .int .i32 0, .int .i64 0, .int .i64 0])) (by kernel_rfl) rfl
  · cases h; exact zero_of (z := (.agg #[.string ⟨[].toArray⟩, .string ⟨[].toArray⟩, .string ⟨[].toArray⟩, .string ⟨[].toArray⟩, .string ⟨[].toArray⟩, .string ⟨[].toArray⟩, .string ⟨[].toArray⟩, .string ⟨[].toArray⟩, .string ⟨[].toArray⟩, .string ⟨[].toArray⟩, .string ⟨[].toArray⟩, .string ⟨[].toArray⟩, .string ⟨[].toArray⟩, .string ⟨[].toArray⟩])) (by kernel_rfl) rfl
  · cases h; exact zero_of (z := (.agg #[.string ⟨[].toArray⟩, .string ⟨[].toArray⟩, .string ⟨[].toArray⟩, .string ⟨[].toArray⟩, .string ⟨[].toArray⟩, .string ⟨[].toArray⟩, .string ⟨[].toArray⟩, .string ⟨[].toArray⟩, .string ⟨[].toArray⟩, .string ⟨[].toArray⟩, .string ⟨[].toArray⟩, .string ⟨[].toArray⟩, .string ⟨[].toArray⟩, .string ⟨[].toArray⟩, .string ⟨[].toArray⟩, .string ⟨[].toArray⟩, .string ⟨[].toArray⟩, .string ⟨[].toArray⟩, .string ⟨[].toArray⟩, .string ⟨[].toArray⟩])) (by kernel_rfl) rfl
  · cases h; exact zero_of (z := (.pointer none)) (by kernel_rfl) rfl
  · cases h; exact zero_of (z := (.agg #[.string ⟨[].toArray⟩, .int .i64 0, .int .i64 0])) (by kernel_rfl) rfl
  · cases h; exact zero_of (z := (.agg #[.string ⟨[].toArray⟩, .int .i64 0, .int .i64 0])) (by kernel_rfl) rfl
  · cases h; exact zero_of (z := (.pointer none)) (by kernel_rfl) rfl
  · cases h; exact zero_of (z := (.agg #[.slice none 0 0, .int .i64 0])) (by kernel_rfl) rfl
  · cases h; exact zero_of (z := (.agg #[.slice none 0 0, .int .i64 0])) (by kernel_rfl) rfl
  · cases h; exact zero_of (z := (.pointer none)) (by kernel_rfl) rfl
  · cases h; exact zero_of (z := (.pointer none)) (by kernel_rfl) rfl
  · cases h; exact zero_of (z := (.slice none 0 0)) (by kernel_rfl) rfl
  · cases h; exact zero_of (z := (.agg #[.int .i64 0, .string ⟨[].toArray⟩, .string ⟨[].toArray⟩, .int .i32 0, .slice none 0 0, .int .i64 0, .slice none 0 0])) (by kernel_rfl) rfl
  · cases h; exact zero_of (z := (.agg #[.int .i64 0, .string ⟨[].toArray⟩, .string ⟨[].toArray⟩, .int .i32 0, .slice none 0 0, .int .i64 0, .slice none 0 0])) (by kernel_rfl) rfl
  · cases h; exact zero_of (z := (.agg #[])) (by kernel_rfl) rfl
  · cases h; exact zero_of (z := (.agg #[])) (by kernel_rfl) rfl
  · cases h; exact zero_of (z := (.slice none 0 0)) (by kernel_rfl) rfl
  · cases h; exact zero_of (z := (.int .u32 0)) (by kernel_rfl) rfl
  · cases h; exact zero_of (z := (.slice none 0 0)) (by kernel_rfl) rfl
  · cases h; exact zero_of (z := (.slice none 0 0)) (by kernel_rfl) rfl
  · cases h; exact zero_of (z := (.pointer none)) (by kernel_rfl) rfl
  · cases h

def slTab : TypeId → Option TypeId
  | 24 => some 41
  | 30 => some 38
  | 35 => some 3
  | 76 => some 62
  | 91 => some 9
  | 110 => some 5
  | 114 => some 91
  | _ => none

theorem slT {t e : TypeId} (h : slTab t = some e) : Sl Try.prog t e := by
  unfold slTab at h
  split at h
  · cases h; exact Try.underlying24
  · cases h; exact Try.underlying30
  · cases h; exact Try.underlying35
  · cases h; exact Try.underlying76
  · cases h; exact Try.underlying91
  · cases h; exact Try.underlying110
  · cases h; exact Try.underlying114
  · cases h

def intTab : TypeId → Option IntKind
  | 2 => some IntKind.i64
  | 3 => some IntKind.i64
  | 5 => some IntKind.u8
  | 12 => some IntKind.u64
  | 21 => some IntKind.i32
  | 25 => some IntKind.i64
  | 36 => some IntKind.i32
  | 39 => some IntKind.u64
  | 107 => some IntKind.u32
  | _ => none

theorem intT {t : TypeId} {k : IntKind} (h : intTab t = some k) : Try.prog.underlying t = some (.int k) := by
  unfold intTab at h
  split at h
  · cases h; exact Try.underlying2
  · cases h; exact Try.underlying3
  · cases h; exact Try.underlying5
  · cases h; exact Try.underlying12
  · cases h; exact Try.underlying21
  · cases h; exact Try.underlying25
  · cases h; exact Try.underlying36
  · cases h; exact Try.underlying39
  · cases h; exact Try.underlying107
  · cases h

def strTab : TypeId → Option Unit
  | 9 => some ()
  | _ => none

theorem strT {t : TypeId} (h : strTab t = some ()) : Try.prog.underlying t = some .string := by
  unfold strTab at h
  split at h
  · exact Try.underlying9
  · cases h

theorem dT {t : TypeId} {k : IntKind} (h : intTab t = some k) : ∃ d, Try.prog.underlying t = some d := ⟨_, intT h⟩

def fldTab : TypeId → Nat → Option (Nat × TypeId)
  | 26, 0 => some (0, 25)
  | 26, 1 => some (1, 3)
  | 27, 0 => some (0, 25)
  | 27, 1 => some (1, 3)
  | 31, 0 => some (0, 30)
  | 32, 0 => some (0, 30)
  | 37, 0 => some (0, 3)
  | 37, 1 => some (1, 9)
  | 37, 2 => some (2, 9)
  | 37, 3 => some (3, 36)
  | 37, 4 => some (4, 35)
  | 37, 5 => some (5, 3)
  | 38, 0 => some (0, 3)
  | 38, 1 => some (1, 9)
  | 38, 2 => some (2, 9)
  | 38, 3 => some (3, 36)
  | 38, 4 => some (4, 35)
  | 38, 5 => some (5, 3)
  | 40, 0 => some (0, 3)
  | 40, 1 => some (1, 9)
  | 40, 2 => some (2, 36)
  | 40, 3 => some (3, 3)
  | 40, 4 => some (4, 3)
  | 41, 0 => some (0, 3)
  | 41, 1 => some (1, 9)
  | 41, 2 => some (2, 36)
  | 41, 3 => some (3, 3)
  | 41, 4 => some (4, 3)
  | 50, 0 => some (0, 9)
  | 50, 1 => some (1, 3)
  | 50, 2 => some (2, 3)
  | 51, 0 => some (0, 9)
  | 51, 1 => some (1, 3)
  | 51, 2 => some (2, 3)
  | 59, 0 => some (0, 24)
  | 59, 1 => some (1, 3)
  | 60, 0 => some (0, 24)
  | 60, 1 => some (1, 3)
  | 77, 0 => some (0, 38)
  | 77, 1 => some (6, 76)
  | 78, 0 => some (0, 38)
  | 78, 1 => some (6, 76)
  | _, _ => none

theorem fldT {t f off : Nat} {ft : TypeId} (h : fldTab t f = some (off, ft)) : Fld Try.prog t f off ft := by
  unfold fldTab at h
  split at h
  · cases h; exact ⟨_, _, Try.underlying26, rfl, rfl, rfl, 0, szT rfl⟩
  · cases h; exact ⟨_, _, Try.underlying26, rfl, rfl, rfl, 0, szT rfl⟩
  · cases h; exact ⟨_, _, Try.underlying27, rfl, rfl, rfl, 0, szT rfl⟩
  · cases h; exact ⟨_, _, Try.underlying27, rfl, rfl, rfl, 0, szT rfl⟩
  · cases h; exact ⟨_, _, Try.underlying31, rfl, rfl, rfl, 0, szT rfl⟩
  · cases h; exact ⟨_, _, Try.underlying32, rfl, rfl, rfl, 0, szT rfl⟩
  · cases h; exact ⟨_, _, Try.underlying37, rfl, rfl, rfl, 0, szT rfl⟩
  · cases h; exact ⟨_, _, Try.underlying37, rfl, rfl, rfl, 0, szT rfl⟩
  · cases h; exact ⟨_, _, Try.underlying37, rfl, rfl, rfl, 0, szT rfl⟩
  · cases h; exact ⟨_, _, Try.underlying37, rfl, rfl, rfl, 0, szT rfl⟩
  · cases h; exact ⟨_, _, Try.underlying37, rfl, rfl, rfl, 0, szT rfl⟩
  · cases h; exact ⟨_, _, Try.underlying37, rfl, rfl, rfl, 0, szT rfl⟩
  · cases h; exact ⟨_, _, Try.underlying38, rfl, rfl, rfl, 0, szT rfl⟩
  · cases h; exact ⟨_, _, Try.underlying38, rfl, rfl, rfl, 0, szT rfl⟩
  · cases h; exact ⟨_, _, Try.underlying38, rfl, rfl, rfl, 0, szT rfl⟩
  · cases h; exact ⟨_, _, Try.underlying38, rfl, rfl, rfl, 0, szT rfl⟩
  · cases h; exact ⟨_, _, Try.underlying38, rfl, rfl, rfl, 0, szT rfl⟩
  · cases h; exact ⟨_, _, Try.underlying38, rfl, rfl, rfl, 0, szT rfl⟩
  · cases h; exact ⟨_, _, Try.underlying40, rfl, rfl, rfl, 0, szT rfl⟩
  · cases h; exact ⟨_, _, Try.underlying40, rfl, rfl, rfl, 0, szT rfl⟩
  · cases h; exact ⟨_, _, Try.underlying40, rfl, rfl, rfl, 0, szT rfl⟩
  · cases h; exact ⟨_, _, Try.underlying40, rfl, rfl, rfl, 0, szT rfl⟩
  · cases h; exact ⟨_, _, Try.underlying40, rfl, rfl, rfl, 0, szT rfl⟩
  · cases h; exact ⟨_, _, Try.underlying41, rfl, rfl, rfl, 0, szT rfl⟩
  · cases h; exact ⟨_, _, Try.underlying41, rfl, rfl, rfl, 0, szT rfl⟩
  · cases h; exact ⟨_, _, Try.underlying41, rfl, rfl, rfl, 0, szT rfl⟩
  · cases h; exact ⟨_, _, Try.underlying41, rfl, rfl, rfl, 0, szT rfl⟩
  · cases h; exact ⟨_, _, Try.underlying41, rfl, rfl, rfl, 0, szT rfl⟩
  · cases h; exact ⟨_, _, Try.underlying50, rfl, rfl, rfl, 0, szT rfl⟩
  · cases h; exact ⟨_, _, Try.underlying50, rfl, rfl, rfl, 0, szT rfl⟩
  · cases h; exact ⟨_, _, Try.underlying50, rfl, rfl, rfl, 0, szT rfl⟩
  · cases h; exact ⟨_, _, Try.underlying51, rfl, rfl, rfl, 0, szT rfl⟩
  · cases h; exact ⟨_, _, Try.underlying51, rfl, rfl, rfl, 0, szT rfl⟩
  · cases h; exact ⟨_, _, Try.underlying51, rfl, rfl, rfl, 0, szT rfl⟩
  · cases h; exact ⟨_, _, Try.underlying59, rfl, rfl, rfl, 0, szT rfl⟩
  · cases h; exact ⟨_, _, Try.underlying59, rfl, rfl, rfl, 0, szT rfl⟩
  · cases h; exact ⟨_, _, Try.underlying60, rfl, rfl, rfl, 0, szT rfl⟩
  · cases h; exact ⟨_, _, Try.underlying60, rfl, rfl, rfl, 0, szT rfl⟩
  · cases h; exact ⟨_, _, Try.underlying77, rfl, rfl, rfl, 5, szT rfl⟩
  · cases h; exact ⟨_, _, Try.underlying77, rfl, rfl, rfl, 0, szT rfl⟩
  · cases h; exact ⟨_, _, Try.underlying78, rfl, rfl, rfl, 5, szT rfl⟩
  · cases h; exact ⟨_, _, Try.underlying78, rfl, rfl, rfl, 0, szT rfl⟩
  · cases h

def bldTab : TypeId → Option (List Value × List (Nat × Nat))
  | 26 => some ([.int .i64 0, .int .i64 0], [(0, 1), (1, 1)])
  | 27 => some ([.int .i64 0, .int .i64 0], [(0, 1), (1, 1)])
  | 31 => some ([.slice none 0 0], [(0, 1)])
  | 32 => some ([.slice none 0 0], [(0, 1)])
  | 37 => some ([.int .i64 0, .string ⟨[].toArray⟩, .string ⟨[].toArray⟩, .int .i32 0, .slice none 0 0, .int .i64 0], [(0, 1), (1, 1), (2, 1), (3, 1), (4, 1), (5, 1)])
  | 38 => some ([.int .i64 0, .string ⟨[].toArray⟩, .string ⟨[].toArray⟩, .int .i32 0, .slice none 0 0, .int .i64 0], [(0, 1), (1, 1), (2, 1), (3, 1), (4, 1), (5, 1)])
  | 40 => some ([.int .i64 0, .string ⟨[].toArray⟩, .int .i32 0, .int .i64 0, .int .i64 0], [(0, 1), (1, 1), (2, 1), (3, 1), (4, 1)])
  | 41 => some ([.int .i64 0, .string ⟨[].toArray⟩, .int .i32 0, .int .i64 0, .int .i64 0], [(0, 1), (1, 1), (2, 1), (3, 1), (4, 1)])
  | 45 => some ([.string ⟨[].toArray⟩, .string ⟨[].toArray⟩, .string ⟨[].toArray⟩, .string ⟨[].toArray⟩, .string ⟨[].toArray⟩, .string ⟨[].toArray⟩, .string ⟨[].toArray⟩, .string ⟨[].toArray⟩, .string ⟨[].toArray⟩, .string ⟨[].toArray⟩, .string ⟨[].toArray⟩, .string ⟨[].toArray⟩, .string ⟨[].toArray⟩, .string ⟨[].toArray⟩], [(0, 1), (1, 1), (2, 1), (3, 1), (4, 1), (5, 1), (6, 1), (7, 1), (8, 1), (9, 1), (10, 1), (11, 1), (12, 1), (13, 1)])
  | 46 => some ([.string ⟨[].toArray⟩, .string ⟨[].toArray⟩, .string ⟨[].toArray⟩, .string ⟨[].toArray⟩, .string ⟨[].toArray⟩, .string ⟨[].toArray⟩, .string ⟨[].toArray⟩, .string ⟨[].toArray⟩, .string ⟨[].toArray⟩, .string ⟨[].toArray⟩, .string ⟨[].toArray⟩, .string ⟨[].toArray⟩, .string ⟨[].toArray⟩, .string ⟨[].toArray⟩, .string ⟨[].toArray⟩, .string ⟨[].toArray⟩, .string ⟨[].toArray⟩, .string ⟨[].toArray⟩, .string ⟨[].toArray⟩, .string ⟨[].toArray⟩], [(0, 1), (1, 1), (2, 1), (3, 1), (4, 1), (5, 1), (6, 1), (7, 1), (8, 1), (9, 1), (10, 1), (11, 1), (12, 1), (13, 1), (14, 1), (15, 1), (16, 1), (17, 1), (18, 1), (19, 1)])
  | 50 => some ([.string ⟨[].toArray⟩, .int .i64 0, .int .i64 0], [(0, 1), (1, 1), (2, 1)])
  | 51 => some ([.string ⟨[].toArray⟩, .int .i64 0, .int .i64 0], [(0, 1), (1, 1), (2, 1)])
  | 59 => some ([.slice none 0 0, .int .i64 0], [(0, 1), (1, 1)])
  | 60 => some ([.slice none 0 0, .int .i64 0], [(0, 1), (1, 1)])
  | 77 => some ([.int .i64 0, .string ⟨[].toArray⟩, .string ⟨[].toArray⟩, .int .i32 0, .slice none 0 0, .int .i64 0, .slice none 0 0], [(0, 6), (6, 1)])
  | 78 => some ([.int .i64 0, .string ⟨[].toArray⟩, .string ⟨[].toArray⟩, .int .i32 0, .slice none 0 0, .int .i64 0, .slice none 0 0], [(0, 6), (6, 1)])
  | 89 => some ([], [])
  | 90 => some ([], [])
  | _ => none

theorem bldT {t : TypeId} {z : List Value} {pl : List (Nat × Nat)} (h : bldTab t = some (z, pl)) : Bld Try.prog t z pl := by
  unfold bldTab at h
  split at h
  · cases h; exact ⟨zeroT rfl, .inl ⟨_, Try.underlying26, by kernel_rfl⟩⟩
  · cases h; exact ⟨zeroT rfl, .inl ⟨_, Try.underlying27, by kernel_rfl⟩⟩
  · cases h; exact ⟨zeroT rfl, .inl ⟨_, Try.underlying31, by kernel_rfl⟩⟩
  · cases h; exact ⟨zeroT rfl, .inl ⟨_, Try.underlying32, by kernel_rfl⟩⟩
  · cases h; exact ⟨zeroT rfl, .inl ⟨_, Try.underlying37, by kernel_rfl⟩⟩
  · cases h; exact ⟨zeroT rfl, .inl ⟨_, Try.underlying38, by kernel_rfl⟩⟩
  · cases h; exact ⟨zeroT rfl, .inl ⟨_, Try.underlying40, by kernel_rfl⟩⟩
  · cases h; exact ⟨zeroT rfl, .inl ⟨_, Try.underlying41, by kernel_rfl⟩⟩
  · cases h; exact ⟨zeroT rfl, .inr ⟨_, _, _, Try.underlying45, szT rfl, by decide⟩⟩
  · cases h; exact ⟨zeroT rfl, .inr ⟨_, _, _, Try.underlying46, szT rfl, by decide⟩⟩
  · cases h; exact ⟨zeroT rfl, .inl ⟨_, Try.underlying50, by kernel_rfl⟩⟩
  · cases h; exact ⟨zeroT rfl, .inl ⟨_, Try.underlying51, by kernel_rfl⟩⟩
  · cases h; exact ⟨zeroT rfl, .inl ⟨_, Try.underlying59, by kernel_rfl⟩⟩
  · cases h; exact ⟨zeroT rfl, .inl ⟨_, Try.underlying60, by kernel_rfl⟩⟩
  · cases h; exact ⟨zeroT rfl, .inl ⟨_, Try.underlying77, by kernel_rfl⟩⟩
  · cases h; exact ⟨zeroT rfl, .inl ⟨_, Try.underlying78, by kernel_rfl⟩⟩
  · cases h; exact ⟨zeroT rfl, .inl ⟨_, Try.underlying89, by kernel_rfl⟩⟩
  · cases h; exact ⟨zeroT rfl, .inl ⟨_, Try.underlying90, by kernel_rfl⟩⟩
  · cases h

def flatTab : TypeId → Option (List Nat)
  | 26 => some [0, 0]
  | 27 => some [0, 0]
  | 40 => some [0, 1, 0, 0, 0]
  | 41 => some [0, 1, 0, 0, 0]
  | 50 => some [1, 0, 0]
  | 51 => some [1, 0, 0]
  | _ => none

theorem flatT {t : TypeId} {ks : List Nat} (h : flatTab t = some ks) : Flat Try.prog t ks := by
  unfold flatTab at h
  split at h
  · cases h; exact ⟨⟨_, Try.underlying26, ⟨by decide, rfl, ⟨_, Try.underlying25⟩, ⟨by decide, rfl, ⟨_, Try.underlying3⟩, trivial⟩⟩⟩, by kernel_rfl, by kernel_rfl⟩
  · cases h; exact ⟨⟨_, Try.underlying27, ⟨by decide, rfl, ⟨_, Try.underlying25⟩, ⟨by decide, rfl, ⟨_, Try.underlying3⟩, trivial⟩⟩⟩, by kernel_rfl, by kernel_rfl⟩
  · cases h; exact ⟨⟨_, Try.underlying40, ⟨by decide, rfl, ⟨_, Try.underlying3⟩, ⟨by decide, rfl, Try.underlying9, ⟨by decide, rfl, ⟨_, Try.underlying36⟩, ⟨by decide, rfl, ⟨_, Try.underlying3⟩, ⟨by decide, rfl, ⟨_, Try.underlying3⟩, trivial⟩⟩⟩⟩⟩⟩, by kernel_rfl, by kernel_rfl⟩
  · cases h; exact ⟨⟨_, Try.underlying41, ⟨by decide, rfl, ⟨_, Try.underlying3⟩, ⟨by decide, rfl, Try.underlying9, ⟨by decide, rfl, ⟨_, Try.underlying36⟩, ⟨by decide, rfl, ⟨_, Try.underlying3⟩, ⟨by decide, rfl, ⟨_, Try.underlying3⟩, trivial⟩⟩⟩⟩⟩⟩, by kernel_rfl, by kernel_rfl⟩
  · cases h; exact ⟨⟨_, Try.underlying50, ⟨by decide, rfl, Try.underlying9, ⟨by decide, rfl, ⟨_, Try.underlying3⟩, ⟨by decide, rfl, ⟨_, Try.underlying3⟩, trivial⟩⟩⟩⟩, by kernel_rfl, by kernel_rfl⟩
  · cases h; exact ⟨⟨_, Try.underlying51, ⟨by decide, rfl, Try.underlying9, ⟨by decide, rfl, ⟨_, Try.underlying3⟩, ⟨by decide, rfl, ⟨_, Try.underlying3⟩, trivial⟩⟩⟩⟩, by kernel_rfl, by kernel_rfl⟩
  · cases h

def boolTab : TypeId → Option Unit
  | 4 => some ()
  | _ => none

theorem boolT {t : TypeId} (h : boolTab t = some ()) : Try.prog.underlying t = some .bool := by
  unfold boolTab at h
  split at h
  · exact Try.underlying4
  · cases h

theorem mixed : Try.prog.follows .mixedOrders = true := by kernel_rfl

theorem has8 : Has Try.prog 8 := ⟨_, _, Try.func8, rfl, by kernel_rfl⟩
theorem has9 : Has Try.prog 9 := ⟨_, _, Try.func9, rfl, by kernel_rfl⟩
theorem has11 : Has Try.prog 11 := ⟨_, _, Try.func11, rfl, by kernel_rfl⟩
theorem has13 : Has Try.prog 13 := ⟨_, _, Try.func13, rfl, by kernel_rfl⟩
theorem has14 : Has Try.prog 14 := ⟨_, _, Try.func14, rfl, by kernel_rfl⟩
theorem has15 : Has Try.prog 15 := ⟨_, _, Try.func15, rfl, by kernel_rfl⟩
theorem has16 : Has Try.prog 16 := ⟨_, _, Try.func16, rfl, by kernel_rfl⟩
theorem has17 : Has Try.prog 17 := ⟨_, _, Try.func17, rfl, by kernel_rfl⟩
theorem has18 : Has Try.prog 18 := ⟨_, _, Try.func18, rfl, by kernel_rfl⟩
theorem has20 : Has Try.prog 20 := ⟨_, _, Try.func20, rfl, by kernel_rfl⟩
theorem has21 : Has Try.prog 21 := ⟨_, _, Try.func21, rfl, by kernel_rfl⟩
theorem has22 : Has Try.prog 22 := ⟨_, _, Try.func22, rfl, by kernel_rfl⟩
theorem has23 : Has Try.prog 23 := ⟨_, _, Try.func23, rfl, by kernel_rfl⟩
theorem has24 : Has Try.prog 24 := ⟨_, _, Try.func24, rfl, by kernel_rfl⟩
theorem has25 : Has Try.prog 25 := ⟨_, _, Try.func25, rfl, by kernel_rfl⟩
theorem has26 : Has Try.prog 26 := ⟨_, _, Try.func26, rfl, by kernel_rfl⟩
theorem has27 : Has Try.prog 27 := ⟨_, _, Try.func27, rfl, by kernel_rfl⟩
theorem has28 : Has Try.prog 28 := ⟨_, _, Try.func28, rfl, by kernel_rfl⟩
theorem has29 : Has Try.prog 29 := ⟨_, _, Try.func29, rfl, by kernel_rfl⟩
theorem has30 : Has Try.prog 30 := ⟨_, _, Try.func30, rfl, by kernel_rfl⟩
theorem has31 : Has Try.prog 31 := ⟨_, _, Try.func31, rfl, by kernel_rfl⟩
theorem has32 : Has Try.prog 32 := ⟨_, _, Try.func32, rfl, by kernel_rfl⟩
theorem has33 : Has Try.prog 33 := ⟨_, _, Try.func33, rfl, by kernel_rfl⟩
theorem has34 : Has Try.prog 34 := ⟨_, _, Try.func34, rfl, by kernel_rfl⟩
theorem has35 : Has Try.prog 35 := ⟨_, _, Try.func35, rfl, by kernel_rfl⟩
theorem has36 : Has Try.prog 36 := ⟨_, _, Try.func36, rfl, by kernel_rfl⟩
theorem has37 : Has Try.prog 37 := ⟨_, _, Try.func37, rfl, by kernel_rfl⟩
theorem has38 : Has Try.prog 38 := ⟨_, _, Try.func38, rfl, by kernel_rfl⟩
theorem has39 : Has Try.prog 39 := ⟨_, _, Try.func39, rfl, by kernel_rfl⟩
theorem has40 : Has Try.prog 40 := ⟨_, _, Try.func40, rfl, by kernel_rfl⟩
theorem has41 : Has Try.prog 41 := ⟨_, _, Try.func41, rfl, by kernel_rfl⟩
theorem has42 : Has Try.prog 42 := ⟨_, _, Try.func42, rfl, by kernel_rfl⟩
theorem has43 : Has Try.prog 43 := ⟨_, _, Try.func43, rfl, by kernel_rfl⟩
theorem has44 : Has Try.prog 44 := ⟨_, _, Try.func44, rfl, by kernel_rfl⟩
theorem has45 : Has Try.prog 45 := ⟨_, _, Try.func45, rfl, by kernel_rfl⟩
theorem has46 : Has Try.prog 46 := ⟨_, _, Try.func46, rfl, by kernel_rfl⟩
theorem has47 : Has Try.prog 47 := ⟨_, _, Try.func47, rfl, by kernel_rfl⟩
theorem has48 : Has Try.prog 48 := ⟨_, _, Try.func48, rfl, by kernel_rfl⟩
theorem has49 : Has Try.prog 49 := ⟨_, _, Try.func49, rfl, by kernel_rfl⟩
theorem has50 : Has Try.prog 50 := ⟨_, _, Try.func50, rfl, by kernel_rfl⟩
theorem has51 : Has Try.prog 51 := ⟨_, _, Try.func51, rfl, by kernel_rfl⟩
theorem has52 : Has Try.prog 52 := ⟨_, _, Try.func52, rfl, by kernel_rfl⟩
theorem has53 : Has Try.prog 53 := ⟨_, _, Try.func53, rfl, by kernel_rfl⟩
theorem has54 : Has Try.prog 54 := ⟨_, _, Try.func54, rfl, by kernel_rfl⟩
theorem has55 : Has Try.prog 55 := ⟨_, _, Try.func55, rfl, by kernel_rfl⟩
theorem has56 : Has Try.prog 56 := ⟨_, _, Try.func56, rfl, by kernel_rfl⟩
theorem has57 : Has Try.prog 57 := ⟨_, _, Try.func57, rfl, by kernel_rfl⟩
theorem has60 : Has Try.prog 60 := ⟨_, _, Try.func60, rfl, by kernel_rfl⟩
theorem has61 : Has Try.prog 61 := ⟨_, _, Try.func61, rfl, by kernel_rfl⟩
theorem has62 : Has Try.prog 62 := ⟨_, _, Try.func62, rfl, by kernel_rfl⟩
theorem has63 : Has Try.prog 63 := ⟨_, _, Try.func63, rfl, by kernel_rfl⟩
theorem has64 : Has Try.prog 64 := ⟨_, _, Try.func64, rfl, by kernel_rfl⟩
theorem has65 : Has Try.prog 65 := ⟨_, _, Try.func65, rfl, by kernel_rfl⟩
theorem has66 : Has Try.prog 66 := ⟨_, _, Try.func66, rfl, by kernel_rfl⟩
theorem has67 : Has Try.prog 67 := ⟨_, _, Try.func67, rfl, by kernel_rfl⟩
theorem has72 : Has Try.prog 72 := ⟨_, _, Try.func72, rfl, by kernel_rfl⟩
theorem has73 : Has Try.prog 73 := ⟨_, _, Try.func73, rfl, by kernel_rfl⟩
theorem has74 : Has Try.prog 74 := ⟨_, _, Try.func74, rfl, by kernel_rfl⟩
theorem has75 : Has Try.prog 75 := ⟨_, _, Try.func75, rfl, by kernel_rfl⟩
theorem has76 : Has Try.prog 76 := ⟨_, _, Try.func76, rfl, by kernel_rfl⟩
theorem has77 : Has Try.prog 77 := ⟨_, _, Try.func77, rfl, by kernel_rfl⟩
theorem has78 : Has Try.prog 78 := ⟨_, _, Try.func78, rfl, by kernel_rfl⟩
theorem has79 : Has Try.prog 79 := ⟨_, _, Try.func79, rfl, by kernel_rfl⟩
theorem has80 : Has Try.prog 80 := ⟨_, _, Try.func80, rfl, by kernel_rfl⟩
theorem has82 : Has Try.prog 82 := ⟨_, _, Try.func82, rfl, by kernel_rfl⟩
theorem has83 : Has Try.prog 83 := ⟨_, _, Try.func83, rfl, by kernel_rfl⟩
theorem has84 : Has Try.prog 84 := ⟨_, _, Try.func84, rfl, by kernel_rfl⟩
theorem has85 : Has Try.prog 85 := ⟨_, _, Try.func85, rfl, by kernel_rfl⟩
theorem has86 : Has Try.prog 86 := ⟨_, _, Try.func86, rfl, by kernel_rfl⟩
theorem has87 : Has Try.prog 87 := ⟨_, _, Try.func87, rfl, by kernel_rfl⟩
theorem has88 : Has Try.prog 88 := ⟨_, _, Try.func88, rfl, by kernel_rfl⟩
theorem has89 : Has Try.prog 89 := ⟨_, _, Try.func89, rfl, by kernel_rfl⟩
theorem has90 : Has Try.prog 90 := ⟨_, _, Try.func90, rfl, by kernel_rfl⟩
theorem has91 : Has Try.prog 91 := ⟨_, _, Try.func91, rfl, by kernel_rfl⟩
theorem has92 : Has Try.prog 92 := ⟨_, _, Try.func92, rfl, by kernel_rfl⟩
theorem has93 : Has Try.prog 93 := ⟨_, _, Try.func93, rfl, by kernel_rfl⟩
theorem has94 : Has Try.prog 94 := ⟨_, _, Try.func94, rfl, by kernel_rfl⟩
theorem has95 : Has Try.prog 95 := ⟨_, _, Try.func95, rfl, by kernel_rfl⟩
theorem has96 : Has Try.prog 96 := ⟨_, _, Try.func96, rfl, by kernel_rfl⟩
theorem has97 : Has Try.prog 97 := ⟨_, _, Try.func97, rfl, by kernel_rfl⟩
end Go.Proofs.Ytbinaeemcidicaa

