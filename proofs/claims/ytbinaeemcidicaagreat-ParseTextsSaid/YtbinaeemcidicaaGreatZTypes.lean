/- Lemmas. No condition. -/
import Derived.Test.YtbinaeemcidicaaGreatProg
import Derived.Test.YtbinaeemcidicaaGreatZEng
set_option maxHeartbeats 16000000
namespace Go.Proofs.YtbinaeemcidicaaGreat
open Go.PB
def szTab : TypeId → Option Nat
 | 2 => some 1
 | 3 => some 1
 | 4 => some 1
 | 5 => some 1
 | 9 => some 1
 | 12 => some 1
 | 21 => some 1
 | 22 => some 1
 | 24 => some 1
 | 26 => some 1
 | 27 => some 2
 | 28 => some 2
 | 33 => some 1
 | 34 => some 1
 | 35 => some 1
 | 40 => some 1
 | 41 => some 5
 | 42 => some 5
 | 43 => some 1
 | 44 => some 6
 | 45 => some 6
 | 46 => some 1
 | 47 => some 3
 | 48 => some 3
 | 52 => some 1
 | 53 => some 3
 | 54 => some 3
 | 55 => some 1
 | 59 => some 1
 | 63 => some 1
 | 64 => some 2
 | 65 => some 2
 | 67 => some 1
 | 77 => some 1
 | 78 => some 7
 | 79 => some 7
 | 83 => some 1
 | 84 => some 7
 | 85 => some 7
 | 98 => some 4
 | 102 => some 0
 | 103 => some 0
 | 111 => some 1
 | 120 => some 1
 | 121 => some 13
 | 124 => some 1
 | 128 => some 14
 | 129 => some 20
 | 136 => some 1
 | 149 => some 1
 | _ => none
theorem szT {t : TypeId} {n : Nat} (h : szTab t = some n) : Sz Tryz.prog t n := by
 unfold szTab at h
 split at h <;> first | (cases h; unfold Sz; kernel_rfl) | cases h
def byTab : TypeId → Option Nat
 | 2 => some 8
 | 3 => some 8
 | 4 => some 1
 | 5 => some 1
 | 9 => some 16
 | 12 => some 8
 | 21 => some 4
 | 22 => some 24
 | 24 => some 24
 | 26 => some 8
 | 27 => some 16
 | 28 => some 16
 | 33 => some 24
 | 34 => some 24
 | 35 => some 24
 | 40 => some 4
 | 41 => some 48
 | 42 => some 48
 | 43 => some 24
 | 44 => some 80
 | 45 => some 80
 | 46 => some 8
 | 47 => some 32
 | 48 => some 32
 | 52 => some 8
 | 53 => some 40
 | 54 => some 40
 | 55 => some 8
 | 59 => some 8
 | 63 => some 8
 | 64 => some 32
 | 65 => some 32
 | 67 => some 8
 | 77 => some 24
 | 78 => some 104
 | 79 => some 104
 | 83 => some 24
 | 84 => some 104
 | 85 => some 104
 | 98 => some 64
 | 102 => some 0
 | 103 => some 0
 | 111 => some 8
 | 120 => some 24
 | 121 => some 208
 | 124 => some 4
 | 128 => some 224
 | 129 => some 320
 | 136 => some 24
 | 149 => some 8
 | _ => none
theorem byT {t : TypeId} {n : Nat} (h : byTab t = some n) : By Tryz.prog t n := by
 unfold byTab at h
 split at h <;> first | (cases h; unfold By; kernel_rfl) | cases h
def agTab : TypeId → Option Bool
 | 2 => some false
 | 3 => some false
 | 4 => some false
 | 5 => some false
 | 9 => some false
 | 12 => some false
 | 21 => some false
 | 22 => some false
 | 24 => some false
 | 26 => some false
 | 27 => some true
 | 28 => some true
 | 33 => some false
 | 34 => some true
 | 35 => some true
 | 40 => some false
 | 41 => some true
 | 42 => some true
 | 43 => some false
 | 44 => some true
 | 45 => some true
 | 46 => some false
 | 47 => some true
 | 48 => some true
 | 52 => some false
 | 53 => some true
 | 54 => some true
 | 55 => some false
 | 59 => some false
 | 63 => some false
 | 64 => some true
 | 65 => some true
 | 67 => some false
 | 77 => some false
 | 78 => some true
 | 79 => some true
 | 83 => some false
 | 84 => some true
 | 85 => some true
 | 98 => some true
 | 102 => some true
 | 103 => some true
 | 111 => some false
 | 120 => some false
 | 121 => some true
 | 124 => some false
 | 128 => some true
 | 129 => some true
 | 136 => some false
 | 149 => some false
 | _ => none
theorem agT {t : TypeId} {b : Bool} (h : agTab t = some b) : Ag Tryz.prog t b := by
 unfold agTab at h
 split at h
 ·cases h; exact ⟨_, Tryz.underlying2, rfl⟩
 ·cases h; exact ⟨_, Tryz.underlying3, rfl⟩
 ·cases h; exact ⟨_, Tryz.underlying4, rfl⟩
 ·cases h; exact ⟨_, Tryz.underlying5, rfl⟩
 ·cases h; exact ⟨_, Tryz.underlying9, rfl⟩
 ·cases h; exact ⟨_, Tryz.underlying12, rfl⟩
 ·cases h; exact ⟨_, Tryz.underlying21, rfl⟩
 ·cases h; exact ⟨_, Tryz.underlying22, rfl⟩
 ·cases h; exact ⟨_, Tryz.underlying24, rfl⟩
 ·cases h; exact ⟨_, Tryz.underlying26, rfl⟩
 ·cases h; exact ⟨_, Tryz.underlying27, rfl⟩
 ·cases h; exact ⟨_, Tryz.underlying28, rfl⟩
 ·cases h; exact ⟨_, Tryz.underlying33, rfl⟩
 ·cases h; exact ⟨_, Tryz.underlying34, rfl⟩
 ·cases h; exact ⟨_, Tryz.underlying35, rfl⟩
 ·cases h; exact ⟨_, Tryz.underlying40, rfl⟩
 ·cases h; exact ⟨_, Tryz.underlying41, rfl⟩
 ·cases h; exact ⟨_, Tryz.underlying42, rfl⟩
 ·cases h; exact ⟨_, Tryz.underlying43, rfl⟩
 ·cases h; exact ⟨_, Tryz.underlying44, rfl⟩
 ·cases h; exact ⟨_, Tryz.underlying45, rfl⟩
 ·cases h; exact ⟨_, Tryz.underlying46, rfl⟩
 ·cases h; exact ⟨_, Tryz.underlying47, rfl⟩
 ·cases h; exact ⟨_, Tryz.underlying48, rfl⟩
 ·cases h; exact ⟨_, Tryz.underlying52, rfl⟩
 ·cases h; exact ⟨_, Tryz.underlying53, rfl⟩
 ·cases h; exact ⟨_, Tryz.underlying54, rfl⟩
 ·cases h; exact ⟨_, Tryz.underlying55, rfl⟩
 ·cases h; exact ⟨_, Tryz.underlying59, rfl⟩
 ·cases h; exact ⟨_, Tryz.underlying63, rfl⟩
 ·cases h; exact ⟨_, Tryz.underlying64, rfl⟩
 ·cases h; exact ⟨_, Tryz.underlying65, rfl⟩
 ·cases h; exact ⟨_, Tryz.underlying67, rfl⟩
 ·cases h; exact ⟨_, Tryz.underlying77, rfl⟩
 ·cases h; exact ⟨_, Tryz.underlying78, rfl⟩
 ·cases h; exact ⟨_, Tryz.underlying79, rfl⟩
 ·cases h; exact ⟨_, Tryz.underlying83, rfl⟩
 ·cases h; exact ⟨_, Tryz.underlying84, rfl⟩
 ·cases h; exact ⟨_, Tryz.underlying85, rfl⟩
 ·cases h; exact ⟨_, Tryz.underlying98, rfl⟩
 ·cases h; exact ⟨_, Tryz.underlying102, rfl⟩
 ·cases h; exact ⟨_, Tryz.underlying103, rfl⟩
 ·cases h; exact ⟨_, Tryz.underlying111, rfl⟩
 ·cases h; exact ⟨_, Tryz.underlying120, rfl⟩
 ·cases h; exact ⟨_, Tryz.underlying121, rfl⟩
 ·cases h; exact ⟨_, Tryz.underlying124, rfl⟩
 ·cases h; exact ⟨_, Tryz.underlying128, rfl⟩
 ·cases h; exact ⟨_, Tryz.underlying129, rfl⟩
 ·cases h; exact ⟨_, Tryz.underlying136, rfl⟩
 ·cases h; exact ⟨_, Tryz.underlying149, rfl⟩
 ·cases h
def zeroTab : TypeId → Option (List Value)
 | 2 => some [.int .i64 0]
 | 3 => some [.int .i64 0]
 | 4 => some [.bool false]
 | 5 => some [.int .u8 0]
 | 9 => some [.string ⟨[].toArray⟩]
 | 12 => some [.int .u64 0]
 | 21 => some [.int .i32 0]
 | 22 => some [.slice none 0 0]
 | 24 => some [.slice none 0 0]
 | 26 => some [.int .i64 0]
 | 27 => some [.int .i64 0, .int .i64 0]
 | 28 => some [.int .i64 0, .int .i64 0]
 | 33 => some [.slice none 0 0]
 | 34 => some [.slice none 0 0]
 | 35 => some [.slice none 0 0]
 | 40 => some [.int .i32 0]
 | 41 => some [.int .i64 0, .string ⟨[].toArray⟩, .int .i32 0, .int .i64 0, .int .i64 0]
 | 42 => some [.int .i64 0, .string ⟨[].toArray⟩, .int .i32 0, .int .i64 0, .int .i64 0]
 | 43 => some [.slice none 0 0]
 | 44 => some [.int .i64 0, .string ⟨[].toArray⟩, .string ⟨[].toArray⟩, .int .i32 0, .slice none 0 0, .int .i64 0]
 | 45 => some [.int .i64 0, .string ⟨[].toArray⟩, .string ⟨[].toArray⟩, .int .i32 0, .slice none 0 0, .int .i64 0]
 | 46 => some [.pointer none]
 | 47 => some [.string ⟨[].toArray⟩, .int .i64 0, .int .i64 0]
 | 48 => some [.string ⟨[].toArray⟩, .int .i64 0, .int .i64 0]
 | 52 => some [.pointer none]
 | 53 => some [.slice none 0 0, .int .i64 0, .bool false]
 | 54 => some [.slice none 0 0, .int .i64 0, .bool false]
 | 55 => some [.pointer none]
 | 59 => some [.pointer none]
 | 63 => some [.pointer none]
 | 64 => some [.slice none 0 0, .int .i64 0]
 | 65 => some [.slice none 0 0, .int .i64 0]
 | 67 => some [.pointer none]
 | 77 => some [.slice none 0 0]
 | 78 => some [.int .i64 0, .string ⟨[].toArray⟩, .string ⟨[].toArray⟩, .int .i32 0, .slice none 0 0, .int .i64 0, .slice none 0 0]
 | 79 => some [.int .i64 0, .string ⟨[].toArray⟩, .string ⟨[].toArray⟩, .int .i32 0, .slice none 0 0, .int .i64 0, .slice none 0 0]
 | 83 => some [.slice none 0 0]
 | 84 => some [.int .i64 0, .string ⟨[].toArray⟩, .string ⟨[].toArray⟩, .int .i32 0, .slice none 0 0, .int .i64 0, .slice none 0 0]
 | 85 => some [.int .i64 0, .string ⟨[].toArray⟩, .string ⟨[].toArray⟩, .int .i32 0, .slice none 0 0, .int .i64 0, .slice none 0 0]
 | 98 => some [.string ⟨[].toArray⟩, .string ⟨[].toArray⟩, .string ⟨[].toArray⟩, .string ⟨[].toArray⟩]
 | 102 => some []
 | 103 => some []
 | 111 => some [.int .u64 0]
 | 120 => some [.slice none 0 0]
 | 121 => some [.string ⟨[].toArray⟩, .string ⟨[].toArray⟩, .string ⟨[].toArray⟩, .string ⟨[].toArray⟩, .string ⟨[].toArray⟩, .string ⟨[].toArray⟩, .string ⟨[].toArray⟩, .string ⟨[].toArray⟩, .string ⟨[].toArray⟩, .string ⟨[].toArray⟩, .string ⟨[].toArray⟩, .string ⟨[].toArray⟩, .string ⟨[].toArray⟩]
 | 124 => some [.int .u32 0]
 | 128 => some [.string ⟨[].toArray⟩, .string ⟨[].toArray⟩, .string ⟨[].toArray⟩, .string ⟨[].toArray⟩, .string ⟨[].toArray⟩, .string ⟨[].toArray⟩, .string ⟨[].toArray⟩, .string ⟨[].toArray⟩, .string ⟨[].toArray⟩, .string ⟨[].toArray⟩, .string ⟨[].toArray⟩, .string ⟨[].toArray⟩, .string ⟨[].toArray⟩, .string ⟨[].toArray⟩]
 | 129 => some [.string ⟨[].toArray⟩, .string ⟨[].toArray⟩, .string ⟨[].toArray⟩, .string ⟨[].toArray⟩, .string ⟨[].toArray⟩, .string ⟨[].toArray⟩, .string ⟨[].toArray⟩, .string ⟨[].toArray⟩, .string ⟨[].toArray⟩, .string ⟨[].toArray⟩, .string ⟨[].toArray⟩, .string ⟨[].toArray⟩, .string ⟨[].toArray⟩, .string ⟨[].toArray⟩, .string ⟨[].toArray⟩, .string ⟨[].toArray⟩, .string ⟨[].toArray⟩, .string ⟨[].toArray⟩, .string ⟨[].toArray⟩, .string ⟨[].toArray⟩]
 | 136 => some [.slice none 0 0]
 | 149 => some [.pointer none]
 | _ => none
theorem zero_of {t : TypeId} {z : Value} {l : List Value} (h : (Tryz.prog.info? t).map (·.zero) = some (some z)) (hl : z.cells = l.toArray) : Zero Tryz.prog t l := by
 obtain ⟨i, hi, hz⟩ := Option.map_eq_some_iff.1 h
 exact ⟨i, z, hi, hz, hl⟩
theorem zeroT {t : TypeId} {l : List Value} (h : zeroTab t = some l) : Zero Tryz.prog t l := by
 unfold zeroTab at h
 split at h
 ·cases h; exact zero_of (z := (.int .i64 0)) Zl rfl
 ·cases h; exact zero_of (z := (.int .i64 0)) Zl rfl
 ·cases h; exact zero_of (z := (.bool false)) Zl rfl
 ·cases h; exact zero_of (z := (.int .u8 0)) Zl rfl
 ·cases h; exact zero_of (z := (.string ⟨[].toArray⟩)) Zl rfl
 ·cases h; exact zero_of (z := (.int .u64 0)) Zl rfl
 ·cases h; exact zero_of (z := (.int .i32 0)) Zl rfl
 ·cases h; exact zero_of (z := (.slice none 0 0)) Zl rfl
 ·cases h; exact zero_of (z := (.slice none 0 0)) Zl rfl
 ·cases h; exact zero_of (z := (.int .i64 0)) Zl rfl
 ·cases h; exact zero_of (z := (.agg #[.int .i64 0, .int .i64 0])) Zl rfl
 ·cases h; exact zero_of (z := (.agg #[.int .i64 0, .int .i64 0])) Zl rfl
 ·cases h; exact zero_of (z := (.slice none 0 0)) Zl rfl
 ·cases h; exact zero_of (z := (.agg #[.slice none 0 0])) Zl rfl
 ·cases h; exact zero_of (z := (.agg #[.slice none 0 0])) Zl rfl
 ·cases h; exact zero_of (z := (.int .i32 0)) Zl rfl
 ·cases h; exact zero_of (z := (.agg #[.int .i64 0, .string ⟨[].toArray⟩, .int .i32 0, .int .i64 0, .int .i64 0])) Zl rfl
 ·cases h; exact zero_of (z := (.agg #[.int .i64 0, .string ⟨[].toArray⟩, .int .i32 0, .int .i64 0, .int .i64 0])) Zl rfl
 ·cases h; exact zero_of (z := (.slice none 0 0)) Zl rfl
 ·cases h; exact zero_of (z := (.agg #[.int .i64 0, .string ⟨[].toArray⟩, .string ⟨[].toArray⟩, .int .i32 0, .slice none 0 0, .int .i64 0])) Zl rfl
 ·cases h; exact zero_of (z := (.agg #[.int .i64 0, .string ⟨[].toArray⟩, .string ⟨[].toArray⟩, .int .i32 0, .slice none 0 0, .int .i64 0])) Zl rfl
 ·cases h; exact zero_of (z := (.pointer none)) Zl rfl
 ·cases h; exact zero_of (z := (.agg #[.string ⟨[].toArray⟩, .int .i64 0, .int .i64 0])) Zl rfl
 ·cases h; exact zero_of (z := (.agg #[.string ⟨[].toArray⟩, .int .i64 0, .int .i64 0])) Zl rfl
 ·cases h; exact zero_of (z := (.pointer none)) Zl rfl
 ·cases h; exact zero_of (z := (.agg #[.slice none 0 0, .int .i64 0, .bool false])) Zl rfl
 ·cases h; exact zero_of (z := (.agg #[.slice none 0 0, .int .i64 0, .bool false])) Zl rfl
 ·cases h; exact zero_of (z := (.pointer none)) Zl rfl
 ·cases h; exact zero_of (z := (.pointer none)) Zl rfl
 ·cases h; exact zero_of (z := (.pointer none)) Zl rfl
 ·cases h; exact zero_of (z := (.agg #[.slice none 0 0, .int .i64 0])) Zl rfl
 ·cases h; exact zero_of (z := (.agg #[.slice none 0 0, .int .i64 0])) Zl rfl
 ·cases h; exact zero_of (z := (.pointer none)) Zl rfl
 ·cases h; exact zero_of (z := (.slice none 0 0)) Zl rfl
 ·cases h; exact zero_of (z := (.agg #[.int .i64 0, .string ⟨[].toArray⟩, .string ⟨[].toArray⟩, .int .i32 0, .slice none 0 0, .int .i64 0, .slice none 0 0])) Zl rfl
 ·cases h; exact zero_of (z := (.agg #[.int .i64 0, .string ⟨[].toArray⟩, .string ⟨[].toArray⟩, .int .i32 0, .slice none 0 0, .int .i64 0, .slice none 0 0])) Zl rfl
 ·cases h; exact zero_of (z := (.slice none 0 0)) Zl rfl
 ·cases h; exact zero_of (z := (.agg #[.int .i64 0, .string ⟨[].toArray⟩, .string ⟨[].toArray⟩, .int .i32 0, .slice none 0 0, .int .i64 0, .slice none 0 0])) Zl rfl
 ·cases h; exact zero_of (z := (.agg #[.int .i64 0, .string ⟨[].toArray⟩, .string ⟨[].toArray⟩, .int .i32 0, .slice none 0 0, .int .i64 0, .slice none 0 0])) Zl rfl
 ·cases h; exact zero_of (z := (.agg #[.string ⟨[].toArray⟩, .string ⟨[].toArray⟩, .string ⟨[].toArray⟩, .string ⟨[].toArray⟩])) Zl rfl
 ·cases h; exact zero_of (z := (.agg #[])) Zl rfl
 ·cases h; exact zero_of (z := (.agg #[])) Zl rfl
 ·cases h; exact zero_of (z := (.int .u64 0)) Zl rfl
 ·cases h; exact zero_of (z := (.slice none 0 0)) Zl rfl
 ·cases h; exact zero_of (z := (.agg #[.string ⟨[].toArray⟩, .string ⟨[].toArray⟩, .string ⟨[].toArray⟩, .string ⟨[].toArray⟩, .string ⟨[].toArray⟩, .string ⟨[].toArray⟩, .string ⟨[].toArray⟩, .string ⟨[].toArray⟩, .string ⟨[].toArray⟩, .string ⟨[].toArray⟩, .string ⟨[].toArray⟩, .string ⟨[].toArray⟩, .string ⟨[].toArray⟩])) Zl rfl
 ·cases h; exact zero_of (z := (.int .u32 0)) Zl rfl
 ·cases h; exact zero_of (z := (.agg #[.string ⟨[].toArray⟩, .string ⟨[].toArray⟩, .string ⟨[].toArray⟩, .string ⟨[].toArray⟩, .string ⟨[].toArray⟩, .string ⟨[].toArray⟩, .string ⟨[].toArray⟩, .string ⟨[].toArray⟩, .string ⟨[].toArray⟩, .string ⟨[].toArray⟩, .string ⟨[].toArray⟩, .string ⟨[].toArray⟩, .string ⟨[].toArray⟩, .string ⟨[].toArray⟩])) Zl rfl
 ·cases h; exact zero_of (z := (.agg #[.string ⟨[].toArray⟩, .string ⟨[].toArray⟩, .string ⟨[].toArray⟩, .string ⟨[].toArray⟩, .string ⟨[].toArray⟩, .string ⟨[].toArray⟩, .string ⟨[].toArray⟩, .string ⟨[].toArray⟩, .string ⟨[].toArray⟩, .string ⟨[].toArray⟩, .string ⟨[].toArray⟩, .string ⟨[].toArray⟩, .string ⟨[].toArray⟩, .string ⟨[].toArray⟩, .string ⟨[].toArray⟩, .string ⟨[].toArray⟩, .string ⟨[].toArray⟩, .string ⟨[].toArray⟩, .string ⟨[].toArray⟩, .string ⟨[].toArray⟩])) Zl rfl
 ·cases h; exact zero_of (z := (.slice none 0 0)) Zl rfl
 ·cases h; exact zero_of (z := (.pointer none)) Zl rfl
 ·cases h
def slTab : TypeId → Option TypeId
 | 22 => some 42
 | 24 => some 9
 | 33 => some 45
 | 43 => some 3
 | 77 => some 55
 | 83 => some 67
 | 120 => some 5
 | 136 => some 24
 | _ => none
theorem slT {t e : TypeId} (h : slTab t = some e) : Sl Tryz.prog t e := by
 unfold slTab at h
 split at h
 ·cases h; exact Tryz.underlying22
 ·cases h; exact Tryz.underlying24
 ·cases h; exact Tryz.underlying33
 ·cases h; exact Tryz.underlying43
 ·cases h; exact Tryz.underlying77
 ·cases h; exact Tryz.underlying83
 ·cases h; exact Tryz.underlying120
 ·cases h; exact Tryz.underlying136
 ·cases h
def intTab : TypeId → Option IntKind
 | 2 => some IntKind.i64
 | 3 => some IntKind.i64
 | 5 => some IntKind.u8
 | 12 => some IntKind.u64
 | 21 => some IntKind.i32
 | 26 => some IntKind.i64
 | 40 => some IntKind.i32
 | 111 => some IntKind.u64
 | 124 => some IntKind.u32
 | _ => none
theorem intT {t : TypeId} {k : IntKind} (h : intTab t = some k) : Tryz.prog.underlying t = some (.int k) := by
 unfold intTab at h
 split at h
 ·cases h; exact Tryz.underlying2
 ·cases h; exact Tryz.underlying3
 ·cases h; exact Tryz.underlying5
 ·cases h; exact Tryz.underlying12
 ·cases h; exact Tryz.underlying21
 ·cases h; exact Tryz.underlying26
 ·cases h; exact Tryz.underlying40
 ·cases h; exact Tryz.underlying111
 ·cases h; exact Tryz.underlying124
 ·cases h
def strTab : TypeId → Option Unit
 | 9 => some ()
 | _ => none
theorem strT {t : TypeId} (h : strTab t = some ()) : Tryz.prog.underlying t = some .string := by
 unfold strTab at h
 split at h
 ·exact Tryz.underlying9
 ·cases h
theorem dT {t : TypeId} {k : IntKind} (h : intTab t = some k) : ∃ d, Tryz.prog.underlying t = some d := ⟨_, intT h⟩
def fldTab : TypeId → Nat → Option (Nat × TypeId)
 | 27, 0 => some (0, 26)
 | 27, 1 => some (1, 3)
 | 28, 0 => some (0, 26)
 | 28, 1 => some (1, 3)
 | 34, 0 => some (0, 33)
 | 35, 0 => some (0, 33)
 | 41, 0 => some (0, 3)
 | 41, 1 => some (1, 9)
 | 41, 2 => some (2, 40)
 | 41, 3 => some (3, 3)
 | 41, 4 => some (4, 3)
 | 42, 0 => some (0, 3)
 | 42, 1 => some (1, 9)
 | 42, 2 => some (2, 40)
 | 42, 3 => some (3, 3)
 | 42, 4 => some (4, 3)
 | 44, 0 => some (0, 3)
 | 44, 1 => some (1, 9)
 | 44, 2 => some (2, 9)
 | 44, 3 => some (3, 40)
 | 44, 4 => some (4, 43)
 | 44, 5 => some (5, 3)
 | 45, 0 => some (0, 3)
 | 45, 1 => some (1, 9)
 | 45, 2 => some (2, 9)
 | 45, 3 => some (3, 40)
 | 45, 4 => some (4, 43)
 | 45, 5 => some (5, 3)
 | 47, 0 => some (0, 9)
 | 47, 1 => some (1, 3)
 | 47, 2 => some (2, 3)
 | 48, 0 => some (0, 9)
 | 48, 1 => some (1, 3)
 | 48, 2 => some (2, 3)
 | 53, 0 => some (0, 22)
 | 53, 1 => some (1, 3)
 | 53, 2 => some (2, 4)
 | 54, 0 => some (0, 22)
 | 54, 1 => some (1, 3)
 | 54, 2 => some (2, 4)
 | 64, 0 => some (0, 22)
 | 64, 1 => some (1, 3)
 | 65, 0 => some (0, 22)
 | 65, 1 => some (1, 3)
 | 78, 0 => some (0, 45)
 | 78, 1 => some (6, 77)
 | 79, 0 => some (0, 45)
 | 79, 1 => some (6, 77)
 | 84, 0 => some (0, 45)
 | 84, 1 => some (6, 83)
 | 85, 0 => some (0, 45)
 | 85, 1 => some (6, 83)
 | _, _ => none
theorem fldT {t f off : Nat} {ft : TypeId} (h : fldTab t f = some (off, ft)) : Fld Tryz.prog t f off ft := by
 unfold fldTab at h
 split at h
 ·cases h; exact ⟨_, _, Tryz.underlying27, rfl, rfl, rfl, 0, szT rfl⟩
 ·cases h; exact ⟨_, _, Tryz.underlying27, rfl, rfl, rfl, 0, szT rfl⟩
 ·cases h; exact ⟨_, _, Tryz.underlying28, rfl, rfl, rfl, 0, szT rfl⟩
 ·cases h; exact ⟨_, _, Tryz.underlying28, rfl, rfl, rfl, 0, szT rfl⟩
 ·cases h; exact ⟨_, _, Tryz.underlying34, rfl, rfl, rfl, 0, szT rfl⟩
 ·cases h; exact ⟨_, _, Tryz.underlying35, rfl, rfl, rfl, 0, szT rfl⟩
 ·cases h; exact ⟨_, _, Tryz.underlying41, rfl, rfl, rfl, 0, szT rfl⟩
 ·cases h; exact ⟨_, _, Tryz.underlying41, rfl, rfl, rfl, 0, szT rfl⟩
 ·cases h; exact ⟨_, _, Tryz.underlying41, rfl, rfl, rfl, 0, szT rfl⟩
 ·cases h; exact ⟨_, _, Tryz.underlying41, rfl, rfl, rfl, 0, szT rfl⟩
 ·cases h; exact ⟨_, _, Tryz.underlying41, rfl, rfl, rfl, 0, szT rfl⟩
 ·cases h; exact ⟨_, _, Tryz.underlying42, rfl, rfl, rfl, 0, szT rfl⟩
 ·cases h; exact ⟨_, _, Tryz.underlying42, rfl, rfl, rfl, 0, szT rfl⟩
 ·cases h; exact ⟨_, _, Tryz.underlying42, rfl, rfl, rfl, 0, szT rfl⟩
 ·cases h; exact ⟨_, _, Tryz.underlying42, rfl, rfl, rfl, 0, szT rfl⟩
 ·cases h; exact ⟨_, _, Tryz.underlying42, rfl, rfl, rfl, 0, szT rfl⟩
 ·cases h; exact ⟨_, _, Tryz.underlying44, rfl, rfl, rfl, 0, szT rfl⟩
 ·cases h; exact ⟨_, _, Tryz.underlying44, rfl, rfl, rfl, 0, szT rfl⟩
 ·cases h; exact ⟨_, _, Tryz.underlying44, rfl, rfl, rfl, 0, szT rfl⟩
 ·cases h; exact ⟨_, _, Tryz.underlying44, rfl, rfl, rfl, 0, szT rfl⟩
 ·cases h; exact ⟨_, _, Tryz.underlying44, rfl, rfl, rfl, 0, szT rfl⟩
 ·cases h; exact ⟨_, _, Tryz.underlying44, rfl, rfl, rfl, 0, szT rfl⟩
 ·cases h; exact ⟨_, _, Tryz.underlying45, rfl, rfl, rfl, 0, szT rfl⟩
 ·cases h; exact ⟨_, _, Tryz.underlying45, rfl, rfl, rfl, 0, szT rfl⟩
 ·cases h; exact ⟨_, _, Tryz.underlying45, rfl, rfl, rfl, 0, szT rfl⟩
 ·cases h; exact ⟨_, _, Tryz.underlying45, rfl, rfl, rfl, 0, szT rfl⟩
 ·cases h; exact ⟨_, _, Tryz.underlying45, rfl, rfl, rfl, 0, szT rfl⟩
 ·cases h; exact ⟨_, _, Tryz.underlying45, rfl, rfl, rfl, 0, szT rfl⟩
 ·cases h; exact ⟨_, _, Tryz.underlying47, rfl, rfl, rfl, 0, szT rfl⟩
 ·cases h; exact ⟨_, _, Tryz.underlying47, rfl, rfl, rfl, 0, szT rfl⟩
 ·cases h; exact ⟨_, _, Tryz.underlying47, rfl, rfl, rfl, 0, szT rfl⟩
 ·cases h; exact ⟨_, _, Tryz.underlying48, rfl, rfl, rfl, 0, szT rfl⟩
 ·cases h; exact ⟨_, _, Tryz.underlying48, rfl, rfl, rfl, 0, szT rfl⟩
 ·cases h; exact ⟨_, _, Tryz.underlying48, rfl, rfl, rfl, 0, szT rfl⟩
 ·cases h; exact ⟨_, _, Tryz.underlying53, rfl, rfl, rfl, 0, szT rfl⟩
 ·cases h; exact ⟨_, _, Tryz.underlying53, rfl, rfl, rfl, 0, szT rfl⟩
 ·cases h; exact ⟨_, _, Tryz.underlying53, rfl, rfl, rfl, 0, szT rfl⟩
 ·cases h; exact ⟨_, _, Tryz.underlying54, rfl, rfl, rfl, 0, szT rfl⟩
 ·cases h; exact ⟨_, _, Tryz.underlying54, rfl, rfl, rfl, 0, szT rfl⟩
 ·cases h; exact ⟨_, _, Tryz.underlying54, rfl, rfl, rfl, 0, szT rfl⟩
 ·cases h; exact ⟨_, _, Tryz.underlying64, rfl, rfl, rfl, 0, szT rfl⟩
 ·cases h; exact ⟨_, _, Tryz.underlying64, rfl, rfl, rfl, 0, szT rfl⟩
 ·cases h; exact ⟨_, _, Tryz.underlying65, rfl, rfl, rfl, 0, szT rfl⟩
 ·cases h; exact ⟨_, _, Tryz.underlying65, rfl, rfl, rfl, 0, szT rfl⟩
 ·cases h; exact ⟨_, _, Tryz.underlying78, rfl, rfl, rfl, 5, szT rfl⟩
 ·cases h; exact ⟨_, _, Tryz.underlying78, rfl, rfl, rfl, 0, szT rfl⟩
 ·cases h; exact ⟨_, _, Tryz.underlying79, rfl, rfl, rfl, 5, szT rfl⟩
 ·cases h; exact ⟨_, _, Tryz.underlying79, rfl, rfl, rfl, 0, szT rfl⟩
 ·cases h; exact ⟨_, _, Tryz.underlying84, rfl, rfl, rfl, 5, szT rfl⟩
 ·cases h; exact ⟨_, _, Tryz.underlying84, rfl, rfl, rfl, 0, szT rfl⟩
 ·cases h; exact ⟨_, _, Tryz.underlying85, rfl, rfl, rfl, 5, szT rfl⟩
 ·cases h; exact ⟨_, _, Tryz.underlying85, rfl, rfl, rfl, 0, szT rfl⟩
 ·cases h
def bldTab : TypeId → Option (List Value × List (Nat × Nat))
 | 27 => some ([.int .i64 0, .int .i64 0], [(0, 1), (1, 1)])
 | 28 => some ([.int .i64 0, .int .i64 0], [(0, 1), (1, 1)])
 | 34 => some ([.slice none 0 0], [(0, 1)])
 | 35 => some ([.slice none 0 0], [(0, 1)])
 | 41 => some ([.int .i64 0, .string ⟨[].toArray⟩, .int .i32 0, .int .i64 0, .int .i64 0], [(0, 1), (1, 1), (2, 1), (3, 1), (4, 1)])
 | 42 => some ([.int .i64 0, .string ⟨[].toArray⟩, .int .i32 0, .int .i64 0, .int .i64 0], [(0, 1), (1, 1), (2, 1), (3, 1), (4, 1)])
 | 44 => some ([.int .i64 0, .string ⟨[].toArray⟩, .string ⟨[].toArray⟩, .int .i32 0, .slice none 0 0, .int .i64 0], [(0, 1), (1, 1), (2, 1), (3, 1), (4, 1), (5, 1)])
 | 45 => some ([.int .i64 0, .string ⟨[].toArray⟩, .string ⟨[].toArray⟩, .int .i32 0, .slice none 0 0, .int .i64 0], [(0, 1), (1, 1), (2, 1), (3, 1), (4, 1), (5, 1)])
 | 47 => some ([.string ⟨[].toArray⟩, .int .i64 0, .int .i64 0], [(0, 1), (1, 1), (2, 1)])
 | 48 => some ([.string ⟨[].toArray⟩, .int .i64 0, .int .i64 0], [(0, 1), (1, 1), (2, 1)])
 | 53 => some ([.slice none 0 0, .int .i64 0, .bool false], [(0, 1), (1, 1), (2, 1)])
 | 54 => some ([.slice none 0 0, .int .i64 0, .bool false], [(0, 1), (1, 1), (2, 1)])
 | 64 => some ([.slice none 0 0, .int .i64 0], [(0, 1), (1, 1)])
 | 65 => some ([.slice none 0 0, .int .i64 0], [(0, 1), (1, 1)])
 | 78 => some ([.int .i64 0, .string ⟨[].toArray⟩, .string ⟨[].toArray⟩, .int .i32 0, .slice none 0 0, .int .i64 0, .slice none 0 0], [(0, 6), (6, 1)])
 | 79 => some ([.int .i64 0, .string ⟨[].toArray⟩, .string ⟨[].toArray⟩, .int .i32 0, .slice none 0 0, .int .i64 0, .slice none 0 0], [(0, 6), (6, 1)])
 | 84 => some ([.int .i64 0, .string ⟨[].toArray⟩, .string ⟨[].toArray⟩, .int .i32 0, .slice none 0 0, .int .i64 0, .slice none 0 0], [(0, 6), (6, 1)])
 | 85 => some ([.int .i64 0, .string ⟨[].toArray⟩, .string ⟨[].toArray⟩, .int .i32 0, .slice none 0 0, .int .i64 0, .slice none 0 0], [(0, 6), (6, 1)])
 | 98 => some ([.string ⟨[].toArray⟩, .string ⟨[].toArray⟩, .string ⟨[].toArray⟩, .string ⟨[].toArray⟩], [(0, 1), (1, 1), (2, 1), (3, 1)])
 | 102 => some ([], [])
 | 103 => some ([], [])
 | 121 => some ([.string ⟨[].toArray⟩, .string ⟨[].toArray⟩, .string ⟨[].toArray⟩, .string ⟨[].toArray⟩, .string ⟨[].toArray⟩, .string ⟨[].toArray⟩, .string ⟨[].toArray⟩, .string ⟨[].toArray⟩, .string ⟨[].toArray⟩, .string ⟨[].toArray⟩, .string ⟨[].toArray⟩, .string ⟨[].toArray⟩, .string ⟨[].toArray⟩], [(0, 1), (1, 1), (2, 1), (3, 1), (4, 1), (5, 1), (6, 1), (7, 1), (8, 1), (9, 1), (10, 1), (11, 1), (12, 1)])
 | 128 => some ([.string ⟨[].toArray⟩, .string ⟨[].toArray⟩, .string ⟨[].toArray⟩, .string ⟨[].toArray⟩, .string ⟨[].toArray⟩, .string ⟨[].toArray⟩, .string ⟨[].toArray⟩, .string ⟨[].toArray⟩, .string ⟨[].toArray⟩, .string ⟨[].toArray⟩, .string ⟨[].toArray⟩, .string ⟨[].toArray⟩, .string ⟨[].toArray⟩, .string ⟨[].toArray⟩], [(0, 1), (1, 1), (2, 1), (3, 1), (4, 1), (5, 1), (6, 1), (7, 1), (8, 1), (9, 1), (10, 1), (11, 1), (12, 1), (13, 1)])
 | 129 => some ([.string ⟨[].toArray⟩, .string ⟨[].toArray⟩, .string ⟨[].toArray⟩, .string ⟨[].toArray⟩, .string ⟨[].toArray⟩, .string ⟨[].toArray⟩, .string ⟨[].toArray⟩, .string ⟨[].toArray⟩, .string ⟨[].toArray⟩, .string ⟨[].toArray⟩, .string ⟨[].toArray⟩, .string ⟨[].toArray⟩, .string ⟨[].toArray⟩, .string ⟨[].toArray⟩, .string ⟨[].toArray⟩, .string ⟨[].toArray⟩, .string ⟨[].toArray⟩, .string ⟨[].toArray⟩, .string ⟨[].toArray⟩, .string ⟨[].toArray⟩], [(0, 1), (1, 1), (2, 1), (3, 1), (4, 1), (5, 1), (6, 1), (7, 1), (8, 1), (9, 1), (10, 1), (11, 1), (12, 1), (13, 1), (14, 1), (15, 1), (16, 1), (17, 1), (18, 1), (19, 1)])
 | _ => none
theorem bldT {t : TypeId} {z : List Value} {pl : List (Nat × Nat)} (h : bldTab t = some (z, pl)) : Bld Tryz.prog t z pl := by
 unfold bldTab at h
 split at h
 ·cases h; exact ⟨zeroT rfl, .inl ⟨_, Tryz.underlying27, by kernel_rfl⟩⟩
 ·cases h; exact ⟨zeroT rfl, .inl ⟨_, Tryz.underlying28, by kernel_rfl⟩⟩
 ·cases h; exact ⟨zeroT rfl, .inl ⟨_, Tryz.underlying34, by kernel_rfl⟩⟩
 ·cases h; exact ⟨zeroT rfl, .inl ⟨_, Tryz.underlying35, by kernel_rfl⟩⟩
 ·cases h; exact ⟨zeroT rfl, .inl ⟨_, Tryz.underlying41, by kernel_rfl⟩⟩
 ·cases h; exact ⟨zeroT rfl, .inl ⟨_, Tryz.underlying42, by kernel_rfl⟩⟩
 ·cases h; exact ⟨zeroT rfl, .inl ⟨_, Tryz.underlying44, by kernel_rfl⟩⟩
 ·cases h; exact ⟨zeroT rfl, .inl ⟨_, Tryz.underlying45, by kernel_rfl⟩⟩
 ·cases h; exact ⟨zeroT rfl, .inl ⟨_, Tryz.underlying47, by kernel_rfl⟩⟩
 ·cases h; exact ⟨zeroT rfl, .inl ⟨_, Tryz.underlying48, by kernel_rfl⟩⟩
 ·cases h; exact ⟨zeroT rfl, .inl ⟨_, Tryz.underlying53, by kernel_rfl⟩⟩
 ·cases h; exact ⟨zeroT rfl, .inl ⟨_, Tryz.underlying54, by kernel_rfl⟩⟩
 ·cases h; exact ⟨zeroT rfl, .inl ⟨_, Tryz.underlying64, by kernel_rfl⟩⟩
 ·cases h; exact ⟨zeroT rfl, .inl ⟨_, Tryz.underlying65, by kernel_rfl⟩⟩
 ·cases h; exact ⟨zeroT rfl, .inl ⟨_, Tryz.underlying78, by kernel_rfl⟩⟩
 ·cases h; exact ⟨zeroT rfl, .inl ⟨_, Tryz.underlying79, by kernel_rfl⟩⟩
 ·cases h; exact ⟨zeroT rfl, .inl ⟨_, Tryz.underlying84, by kernel_rfl⟩⟩
 ·cases h; exact ⟨zeroT rfl, .inl ⟨_, Tryz.underlying85, by kernel_rfl⟩⟩
 ·cases h; exact ⟨zeroT rfl, .inr ⟨_, _, _, Tryz.underlying98, szT rfl, by decide⟩⟩
 ·cases h; exact ⟨zeroT rfl, .inl ⟨_, Tryz.underlying102, by kernel_rfl⟩⟩
 ·cases h; exact ⟨zeroT rfl, .inl ⟨_, Tryz.underlying103, by kernel_rfl⟩⟩
 ·cases h; exact ⟨zeroT rfl, .inr ⟨_, _, _, Tryz.underlying121, szT rfl, by decide⟩⟩
 ·cases h; exact ⟨zeroT rfl, .inr ⟨_, _, _, Tryz.underlying128, szT rfl, by decide⟩⟩
 ·cases h; exact ⟨zeroT rfl, .inr ⟨_, _, _, Tryz.underlying129, szT rfl, by decide⟩⟩
 ·cases h
def flatTab : TypeId → Option (List Nat)
 | 27 => some [0, 0]
 | 28 => some [0, 0]
 | 41 => some [0, 1, 0, 0, 0]
 | 42 => some [0, 1, 0, 0, 0]
 | 47 => some [1, 0, 0]
 | 48 => some [1, 0, 0]
 | _ => none
theorem flatT {t : TypeId} {ks : List Nat} (h : flatTab t = some ks) : Flat Tryz.prog t ks := by
 unfold flatTab at h
 split at h
 ·cases h; exact ⟨⟨_, Tryz.underlying27, ⟨by decide, rfl, ⟨_, Tryz.underlying26⟩, ⟨by decide, rfl, ⟨_, Tryz.underlying3⟩, trivial⟩⟩⟩, by kernel_rfl, by kernel_rfl⟩
 ·cases h; exact ⟨⟨_, Tryz.underlying28, ⟨by decide, rfl, ⟨_, Tryz.underlying26⟩, ⟨by decide, rfl, ⟨_, Tryz.underlying3⟩, trivial⟩⟩⟩, by kernel_rfl, by kernel_rfl⟩
 ·cases h; exact ⟨⟨_, Tryz.underlying41, ⟨by decide, rfl, ⟨_, Tryz.underlying3⟩, ⟨by decide, rfl, Tryz.underlying9, ⟨by decide, rfl, ⟨_, Tryz.underlying40⟩, ⟨by decide, rfl, ⟨_, Tryz.underlying3⟩, ⟨by decide, rfl, ⟨_, Tryz.underlying3⟩, trivial⟩⟩⟩⟩⟩⟩, by kernel_rfl, by kernel_rfl⟩
 ·cases h; exact ⟨⟨_, Tryz.underlying42, ⟨by decide, rfl, ⟨_, Tryz.underlying3⟩, ⟨by decide, rfl, Tryz.underlying9, ⟨by decide, rfl, ⟨_, Tryz.underlying40⟩, ⟨by decide, rfl, ⟨_, Tryz.underlying3⟩, ⟨by decide, rfl, ⟨_, Tryz.underlying3⟩, trivial⟩⟩⟩⟩⟩⟩, by kernel_rfl, by kernel_rfl⟩
 ·cases h; exact ⟨⟨_, Tryz.underlying47, ⟨by decide, rfl, Tryz.underlying9, ⟨by decide, rfl, ⟨_, Tryz.underlying3⟩, ⟨by decide, rfl, ⟨_, Tryz.underlying3⟩, trivial⟩⟩⟩⟩, by kernel_rfl, by kernel_rfl⟩
 ·cases h; exact ⟨⟨_, Tryz.underlying48, ⟨by decide, rfl, Tryz.underlying9, ⟨by decide, rfl, ⟨_, Tryz.underlying3⟩, ⟨by decide, rfl, ⟨_, Tryz.underlying3⟩, trivial⟩⟩⟩⟩, by kernel_rfl, by kernel_rfl⟩
 ·cases h
def arrTab : TypeId → Option (Nat × TypeId)
 | 98 => some (4, 9)
 | 121 => some (13, 9)
 | 128 => some (14, 9)
 | 129 => some (20, 9)
 | _ => none
theorem arrT {t m e : Nat} (h : arrTab t = some (m, e)) : Tryz.prog.underlying t = some (.array m e) := by
 unfold arrTab at h
 split at h
 ·cases h; exact Tryz.underlying98
 ·cases h; exact Tryz.underlying121
 ·cases h; exact Tryz.underlying128
 ·cases h; exact Tryz.underlying129
 ·cases h
def boolTab : TypeId → Option Unit
 | 4 => some ()
 | _ => none
theorem boolT {t : TypeId} (h : boolTab t = some ()) : Tryz.prog.underlying t = some .bool := by
 unfold boolTab at h
 split at h
 ·exact Tryz.underlying4
 ·cases h
theorem mixed : Tryz.prog.follows .mixedOrders = true := by kernel_rfl
theorem has5 : Has Tryz.prog 5 := ⟨_, _, Tryz.func5, rfl, by kernel_rfl⟩
theorem has7 : Has Tryz.prog 7 := ⟨_, _, Tryz.func7, rfl, by kernel_rfl⟩
theorem has8 : Has Tryz.prog 8 := ⟨_, _, Tryz.func8, rfl, by kernel_rfl⟩
theorem has9 : Has Tryz.prog 9 := ⟨_, _, Tryz.func9, rfl, by kernel_rfl⟩
theorem has10 : Has Tryz.prog 10 := ⟨_, _, Tryz.func10, rfl, by kernel_rfl⟩
theorem has11 : Has Tryz.prog 11 := ⟨_, _, Tryz.func11, rfl, by kernel_rfl⟩
theorem has12 : Has Tryz.prog 12 := ⟨_, _, Tryz.func12, rfl, by kernel_rfl⟩
theorem has13 : Has Tryz.prog 13 := ⟨_, _, Tryz.func13, rfl, by kernel_rfl⟩
theorem has14 : Has Tryz.prog 14 := ⟨_, _, Tryz.func14, rfl, by kernel_rfl⟩
theorem has15 : Has Tryz.prog 15 := ⟨_, _, Tryz.func15, rfl, by kernel_rfl⟩
theorem has16 : Has Tryz.prog 16 := ⟨_, _, Tryz.func16, rfl, by kernel_rfl⟩
theorem has17 : Has Tryz.prog 17 := ⟨_, _, Tryz.func17, rfl, by kernel_rfl⟩
theorem has18 : Has Tryz.prog 18 := ⟨_, _, Tryz.func18, rfl, by kernel_rfl⟩
theorem has19 : Has Tryz.prog 19 := ⟨_, _, Tryz.func19, rfl, by kernel_rfl⟩
theorem has20 : Has Tryz.prog 20 := ⟨_, _, Tryz.func20, rfl, by kernel_rfl⟩
theorem has21 : Has Tryz.prog 21 := ⟨_, _, Tryz.func21, rfl, by kernel_rfl⟩
theorem has22 : Has Tryz.prog 22 := ⟨_, _, Tryz.func22, rfl, by kernel_rfl⟩
theorem has23 : Has Tryz.prog 23 := ⟨_, _, Tryz.func23, rfl, by kernel_rfl⟩
theorem has24 : Has Tryz.prog 24 := ⟨_, _, Tryz.func24, rfl, by kernel_rfl⟩
theorem has25 : Has Tryz.prog 25 := ⟨_, _, Tryz.func25, rfl, by kernel_rfl⟩
theorem has26 : Has Tryz.prog 26 := ⟨_, _, Tryz.func26, rfl, by kernel_rfl⟩
theorem has27 : Has Tryz.prog 27 := ⟨_, _, Tryz.func27, rfl, by kernel_rfl⟩
theorem has28 : Has Tryz.prog 28 := ⟨_, _, Tryz.func28, rfl, by kernel_rfl⟩
theorem has29 : Has Tryz.prog 29 := ⟨_, _, Tryz.func29, rfl, by kernel_rfl⟩
theorem has30 : Has Tryz.prog 30 := ⟨_, _, Tryz.func30, rfl, by kernel_rfl⟩
theorem has31 : Has Tryz.prog 31 := ⟨_, _, Tryz.func31, rfl, by kernel_rfl⟩
theorem has32 : Has Tryz.prog 32 := ⟨_, _, Tryz.func32, rfl, by kernel_rfl⟩
theorem has33 : Has Tryz.prog 33 := ⟨_, _, Tryz.func33, rfl, by kernel_rfl⟩
theorem has34 : Has Tryz.prog 34 := ⟨_, _, Tryz.func34, rfl, by kernel_rfl⟩
theorem has35 : Has Tryz.prog 35 := ⟨_, _, Tryz.func35, rfl, by kernel_rfl⟩
theorem has36 : Has Tryz.prog 36 := ⟨_, _, Tryz.func36, rfl, by kernel_rfl⟩
theorem has37 : Has Tryz.prog 37 := ⟨_, _, Tryz.func37, rfl, by kernel_rfl⟩
theorem has38 : Has Tryz.prog 38 := ⟨_, _, Tryz.func38, rfl, by kernel_rfl⟩
theorem has39 : Has Tryz.prog 39 := ⟨_, _, Tryz.func39, rfl, by kernel_rfl⟩
theorem has40 : Has Tryz.prog 40 := ⟨_, _, Tryz.func40, rfl, by kernel_rfl⟩
theorem has41 : Has Tryz.prog 41 := ⟨_, _, Tryz.func41, rfl, by kernel_rfl⟩
theorem has42 : Has Tryz.prog 42 := ⟨_, _, Tryz.func42, rfl, by kernel_rfl⟩
theorem has43 : Has Tryz.prog 43 := ⟨_, _, Tryz.func43, rfl, by kernel_rfl⟩
theorem has44 : Has Tryz.prog 44 := ⟨_, _, Tryz.func44, rfl, by kernel_rfl⟩
theorem has45 : Has Tryz.prog 45 := ⟨_, _, Tryz.func45, rfl, by kernel_rfl⟩
theorem has46 : Has Tryz.prog 46 := ⟨_, _, Tryz.func46, rfl, by kernel_rfl⟩
theorem has47 : Has Tryz.prog 47 := ⟨_, _, Tryz.func47, rfl, by kernel_rfl⟩
theorem has48 : Has Tryz.prog 48 := ⟨_, _, Tryz.func48, rfl, by kernel_rfl⟩
theorem has49 : Has Tryz.prog 49 := ⟨_, _, Tryz.func49, rfl, by kernel_rfl⟩
theorem has50 : Has Tryz.prog 50 := ⟨_, _, Tryz.func50, rfl, by kernel_rfl⟩
theorem has51 : Has Tryz.prog 51 := ⟨_, _, Tryz.func51, rfl, by kernel_rfl⟩
theorem has52 : Has Tryz.prog 52 := ⟨_, _, Tryz.func52, rfl, by kernel_rfl⟩
theorem has53 : Has Tryz.prog 53 := ⟨_, _, Tryz.func53, rfl, by kernel_rfl⟩
theorem has54 : Has Tryz.prog 54 := ⟨_, _, Tryz.func54, rfl, by kernel_rfl⟩
theorem has55 : Has Tryz.prog 55 := ⟨_, _, Tryz.func55, rfl, by kernel_rfl⟩
theorem has56 : Has Tryz.prog 56 := ⟨_, _, Tryz.func56, rfl, by kernel_rfl⟩
theorem has59 : Has Tryz.prog 59 := ⟨_, _, Tryz.func59, rfl, by kernel_rfl⟩
theorem has60 : Has Tryz.prog 60 := ⟨_, _, Tryz.func60, rfl, by kernel_rfl⟩
theorem has61 : Has Tryz.prog 61 := ⟨_, _, Tryz.func61, rfl, by kernel_rfl⟩
theorem has62 : Has Tryz.prog 62 := ⟨_, _, Tryz.func62, rfl, by kernel_rfl⟩
theorem has63 : Has Tryz.prog 63 := ⟨_, _, Tryz.func63, rfl, by kernel_rfl⟩
theorem has64 : Has Tryz.prog 64 := ⟨_, _, Tryz.func64, rfl, by kernel_rfl⟩
theorem has65 : Has Tryz.prog 65 := ⟨_, _, Tryz.func65, rfl, by kernel_rfl⟩
theorem has66 : Has Tryz.prog 66 := ⟨_, _, Tryz.func66, rfl, by kernel_rfl⟩
theorem has67 : Has Tryz.prog 67 := ⟨_, _, Tryz.func67, rfl, by kernel_rfl⟩
theorem has68 : Has Tryz.prog 68 := ⟨_, _, Tryz.func68, rfl, by kernel_rfl⟩
theorem has69 : Has Tryz.prog 69 := ⟨_, _, Tryz.func69, rfl, by kernel_rfl⟩
theorem has70 : Has Tryz.prog 70 := ⟨_, _, Tryz.func70, rfl, by kernel_rfl⟩
theorem has71 : Has Tryz.prog 71 := ⟨_, _, Tryz.func71, rfl, by kernel_rfl⟩
theorem has72 : Has Tryz.prog 72 := ⟨_, _, Tryz.func72, rfl, by kernel_rfl⟩
theorem has73 : Has Tryz.prog 73 := ⟨_, _, Tryz.func73, rfl, by kernel_rfl⟩
theorem has74 : Has Tryz.prog 74 := ⟨_, _, Tryz.func74, rfl, by kernel_rfl⟩
theorem has75 : Has Tryz.prog 75 := ⟨_, _, Tryz.func75, rfl, by kernel_rfl⟩
theorem has76 : Has Tryz.prog 76 := ⟨_, _, Tryz.func76, rfl, by kernel_rfl⟩
theorem has77 : Has Tryz.prog 77 := ⟨_, _, Tryz.func77, rfl, by kernel_rfl⟩
theorem has82 : Has Tryz.prog 82 := ⟨_, _, Tryz.func82, rfl, by kernel_rfl⟩
theorem has83 : Has Tryz.prog 83 := ⟨_, _, Tryz.func83, rfl, by kernel_rfl⟩
theorem has84 : Has Tryz.prog 84 := ⟨_, _, Tryz.func84, rfl, by kernel_rfl⟩
theorem has85 : Has Tryz.prog 85 := ⟨_, _, Tryz.func85, rfl, by kernel_rfl⟩
theorem has86 : Has Tryz.prog 86 := ⟨_, _, Tryz.func86, rfl, by kernel_rfl⟩
theorem has87 : Has Tryz.prog 87 := ⟨_, _, Tryz.func87, rfl, by kernel_rfl⟩
theorem has88 : Has Tryz.prog 88 := ⟨_, _, Tryz.func88, rfl, by kernel_rfl⟩
theorem has89 : Has Tryz.prog 89 := ⟨_, _, Tryz.func89, rfl, by kernel_rfl⟩
theorem has90 : Has Tryz.prog 90 := ⟨_, _, Tryz.func90, rfl, by kernel_rfl⟩
theorem has91 : Has Tryz.prog 91 := ⟨_, _, Tryz.func91, rfl, by kernel_rfl⟩
theorem has92 : Has Tryz.prog 92 := ⟨_, _, Tryz.func92, rfl, by kernel_rfl⟩
theorem has93 : Has Tryz.prog 93 := ⟨_, _, Tryz.func93, rfl, by kernel_rfl⟩
theorem has94 : Has Tryz.prog 94 := ⟨_, _, Tryz.func94, rfl, by kernel_rfl⟩
theorem has95 : Has Tryz.prog 95 := ⟨_, _, Tryz.func95, rfl, by kernel_rfl⟩
theorem has96 : Has Tryz.prog 96 := ⟨_, _, Tryz.func96, rfl, by kernel_rfl⟩
theorem has97 : Has Tryz.prog 97 := ⟨_, _, Tryz.func97, rfl, by kernel_rfl⟩
theorem has98 : Has Tryz.prog 98 := ⟨_, _, Tryz.func98, rfl, by kernel_rfl⟩
theorem has99 : Has Tryz.prog 99 := ⟨_, _, Tryz.func99, rfl, by kernel_rfl⟩
theorem has100 : Has Tryz.prog 100 := ⟨_, _, Tryz.func100, rfl, by kernel_rfl⟩
theorem has101 : Has Tryz.prog 101 := ⟨_, _, Tryz.func101, rfl, by kernel_rfl⟩
theorem has102 : Has Tryz.prog 102 := ⟨_, _, Tryz.func102, rfl, by kernel_rfl⟩
theorem has103 : Has Tryz.prog 103 := ⟨_, _, Tryz.func103, rfl, by kernel_rfl⟩
theorem has105 : Has Tryz.prog 105 := ⟨_, _, Tryz.func105, rfl, by kernel_rfl⟩
theorem has106 : Has Tryz.prog 106 := ⟨_, _, Tryz.func106, rfl, by kernel_rfl⟩
theorem has107 : Has Tryz.prog 107 := ⟨_, _, Tryz.func107, rfl, by kernel_rfl⟩
theorem has108 : Has Tryz.prog 108 := ⟨_, _, Tryz.func108, rfl, by kernel_rfl⟩
theorem has109 : Has Tryz.prog 109 := ⟨_, _, Tryz.func109, rfl, by kernel_rfl⟩
theorem has110 : Has Tryz.prog 110 := ⟨_, _, Tryz.func110, rfl, by kernel_rfl⟩
theorem has111 : Has Tryz.prog 111 := ⟨_, _, Tryz.func111, rfl, by kernel_rfl⟩
theorem has112 : Has Tryz.prog 112 := ⟨_, _, Tryz.func112, rfl, by kernel_rfl⟩
theorem has113 : Has Tryz.prog 113 := ⟨_, _, Tryz.func113, rfl, by kernel_rfl⟩
theorem has114 : Has Tryz.prog 114 := ⟨_, _, Tryz.func114, rfl, by kernel_rfl⟩
theorem has115 : Has Tryz.prog 115 := ⟨_, _, Tryz.func115, rfl, by kernel_rfl⟩
theorem has116 : Has Tryz.prog 116 := ⟨_, _, Tryz.func116, rfl, by kernel_rfl⟩
theorem has117 : Has Tryz.prog 117 := ⟨_, _, Tryz.func117, rfl, by kernel_rfl⟩
theorem has118 : Has Tryz.prog 118 := ⟨_, _, Tryz.func118, rfl, by kernel_rfl⟩
theorem has119 : Has Tryz.prog 119 := ⟨_, _, Tryz.func119, rfl, by kernel_rfl⟩
theorem has120 : Has Tryz.prog 120 := ⟨_, _, Tryz.func120, rfl, by kernel_rfl⟩
theorem has121 : Has Tryz.prog 121 := ⟨_, _, Tryz.func121, rfl, by kernel_rfl⟩
theorem has122 : Has Tryz.prog 122 := ⟨_, _, Tryz.func122, rfl, by kernel_rfl⟩
theorem has123 : Has Tryz.prog 123 := ⟨_, _, Tryz.func123, rfl, by kernel_rfl⟩
theorem has124 : Has Tryz.prog 124 := ⟨_, _, Tryz.func124, rfl, by kernel_rfl⟩
theorem has125 : Has Tryz.prog 125 := ⟨_, _, Tryz.func125, rfl, by kernel_rfl⟩
theorem has126 : Has Tryz.prog 126 := ⟨_, _, Tryz.func126, rfl, by kernel_rfl⟩
theorem has127 : Has Tryz.prog 127 := ⟨_, _, Tryz.func127, rfl, by kernel_rfl⟩
theorem has128 : Has Tryz.prog 128 := ⟨_, _, Tryz.func128, rfl, by kernel_rfl⟩
theorem has129 : Has Tryz.prog 129 := ⟨_, _, Tryz.func129, rfl, by kernel_rfl⟩
theorem has130 : Has Tryz.prog 130 := ⟨_, _, Tryz.func130, rfl, by kernel_rfl⟩
theorem has131 : Has Tryz.prog 131 := ⟨_, _, Tryz.func131, rfl, by kernel_rfl⟩
end Go.Proofs.YtbinaeemcidicaaGreat
