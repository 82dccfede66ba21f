/- Lemmas. No condition. -/
import Derived.Test.YtbinaeemcidicaaGreatDoorProg
import Derived.Test.YtbinaeemcidicaaGreatDoorZEng
set_option maxHeartbeats 16000000
namespace Go.Proofs.YtbinaeemcidicaaGreatDoor
open Go.PB
def szTab : TypeId → Option Nat
 | 2 => some 1
 | 3 => some 1
 | 4 => some 1
 | 5 => some 1
 | 9 => some 1
 | 12 => some 1
 | 21 => some 1
 | 22 => some 1
 | 23 => some 1
 | 24 => some 1
 | 27 => some 1
 | 36 => some 1
 | 37 => some 2
 | 38 => some 2
 | 44 => some 1
 | 45 => some 1
 | 46 => some 6
 | 47 => some 6
 | 48 => some 1
 | 49 => some 1
 | 50 => some 1
 | 51 => some 1
 | 53 => some 2
 | 54 => some 4
 | 55 => some 4
 | 60 => some 1
 | 63 => some 1
 | 64 => some 3
 | 65 => some 3
 | 66 => some 5
 | 67 => some 5
 | 73 => some 1
 | 74 => some 2
 | 75 => some 2
 | 77 => some 1
 | 84 => some 1
 | 85 => some 1
 | 86 => some 4
 | 87 => some 4
 | 89 => some 1
 | 90 => some 4
 | 91 => some 4
 | 102 => some 1
 | 103 => some 7
 | 104 => some 7
 | 112 => some 1
 | 129 => some 1
 | 130 => some 3
 | 131 => some 3
 | 132 => some 1
 | 135 => some 1
 | 140 => some 0
 | 141 => some 0
 | 155 => some 1
 | 159 => some 13
 | 162 => some 1
 | 163 => some 7
 | 164 => some 7
 | 166 => some 1
 | 183 => some 4
 | 187 => some 1
 | 193 => some 256
 | 194 => some 256
 | 198 => some 1
 | 200 => some 1
 | 204 => some 24
 | 213 => some 14
 | 214 => some 20
 | 219 => some 20
 | 220 => some 65
 | 227 => some 32
 | 228 => some 64
 | 229 => some 256
 | 232 => some 32
 | _ => none
theorem szT {t : TypeId} {n : Nat} (h : szTab t = some n) : Sz Tryz.prog t n := by
 unfold szTab at h
 split at h <;> first | (cases h; unfold Sz; kernel_rfl) | cases h
def byTab : TypeId → Option Nat
 | 2 => some 8
 | 3 => some 8
 | 4 => some 1
 | 5 => some 1
 | 9 => some 16
 | 12 => some 8
 | 21 => some 4
 | 22 => some 24
 | 23 => some 24
 | 24 => some 24
 | 27 => some 8
 | 36 => some 24
 | 37 => some 16
 | 38 => some 16
 | 44 => some 4
 | 45 => some 24
 | 46 => some 80
 | 47 => some 80
 | 48 => some 8
 | 49 => some 8
 | 50 => some 8
 | 51 => some 24
 | 53 => some 32
 | 54 => some 72
 | 55 => some 72
 | 60 => some 24
 | 63 => some 8
 | 64 => some 32
 | 65 => some 32
 | 66 => some 48
 | 67 => some 48
 | 73 => some 8
 | 74 => some 32
 | 75 => some 32
 | 77 => some 8
 | 84 => some 8
 | 85 => some 8
 | 86 => some 48
 | 87 => some 48
 | 89 => some 8
 | 90 => some 64
 | 91 => some 64
 | 102 => some 24
 | 103 => some 104
 | 104 => some 104
 | 112 => some 16
 | 129 => some 8
 | 130 => some 40
 | 131 => some 40
 | 132 => some 8
 | 135 => some 8
 | 140 => some 0
 | 141 => some 0
 | 155 => some 24
 | 159 => some 208
 | 162 => some 24
 | 163 => some 104
 | 164 => some 104
 | 166 => some 8
 | 183 => some 64
 | 187 => some 4
 | 193 => some 256
 | 194 => some 256
 | 198 => some 8
 | 200 => some 8
 | 204 => some 24
 | 213 => some 224
 | 214 => some 320
 | 219 => some 160
 | 220 => some 65
 | 227 => some 32
 | 228 => some 64
 | 229 => some 256
 | 232 => some 32
 | _ => none
theorem byT {t : TypeId} {n : Nat} (h : byTab t = some n) : By Tryz.prog t n := by
 unfold byTab at h
 split at h <;> first | (cases h; unfold By; kernel_rfl) | cases h
def agTab : TypeId → Option Bool
 | 2 => some false
 | 3 => some false
 | 4 => some false
 | 5 => some false
 | 9 => some false
 | 12 => some false
 | 21 => some false
 | 22 => some false
 | 23 => some true
 | 24 => some true
 | 27 => some false
 | 36 => some false
 | 37 => some true
 | 38 => some true
 | 44 => some false
 | 45 => some false
 | 46 => some true
 | 47 => some true
 | 48 => some false
 | 49 => some false
 | 50 => some false
 | 51 => some false
 | 53 => some true
 | 54 => some true
 | 55 => some true
 | 60 => some false
 | 63 => some false
 | 64 => some true
 | 65 => some true
 | 66 => some true
 | 67 => some true
 | 73 => some false
 | 74 => some true
 | 75 => some true
 | 77 => some false
 | 84 => some false
 | 85 => some false
 | 86 => some true
 | 87 => some true
 | 89 => some false
 | 90 => some true
 | 91 => some true
 | 102 => some false
 | 103 => some true
 | 104 => some true
 | 112 => some false
 | 129 => some false
 | 130 => some true
 | 131 => some true
 | 132 => some false
 | 135 => some false
 | 140 => some true
 | 141 => some true
 | 155 => some false
 | 159 => some true
 | 162 => some false
 | 163 => some true
 | 164 => some true
 | 166 => some false
 | 183 => some true
 | 187 => some false
 | 193 => some true
 | 194 => some true
 | 198 => some false
 | 200 => some false
 | 204 => some true
 | 213 => some true
 | 214 => some true
 | 219 => some true
 | 220 => some true
 | 227 => some true
 | 228 => some true
 | 229 => some true
 | 232 => some true
 | _ => none
theorem agT {t : TypeId} {b : Bool} (h : agTab t = some b) : Ag Tryz.prog t b := by
 unfold agTab at h
 split at h
 ·cases h; exact ⟨_, Tryz.underlying2, rfl⟩
 ·cases h; exact ⟨_, Tryz.underlying3, rfl⟩
 ·cases h; exact ⟨_, Tryz.underlying4, rfl⟩
 ·cases h; exact ⟨_, Tryz.underlying5, rfl⟩
 ·cases h; exact ⟨_, Tryz.underlying9, rfl⟩
 ·cases h; exact ⟨_, Tryz.underlying12, rfl⟩
 ·cases h; exact ⟨_, Tryz.underlying21, rfl⟩
 ·cases h; exact ⟨_, Tryz.underlying22, rfl⟩
 ·cases h; exact ⟨_, Tryz.underlying23, rfl⟩
 ·cases h; exact ⟨_, Tryz.underlying24, rfl⟩
 ·cases h; exact ⟨_, Tryz.underlying27, rfl⟩
 ·cases h; exact ⟨_, Tryz.underlying36, rfl⟩
 ·cases h; exact ⟨_, Tryz.underlying37, rfl⟩
 ·cases h; exact ⟨_, Tryz.underlying38, rfl⟩
 ·cases h; exact ⟨_, Tryz.underlying44, rfl⟩
 ·cases h; exact ⟨_, Tryz.underlying45, rfl⟩
 ·cases h; exact ⟨_, Tryz.underlying46, rfl⟩
 ·cases h; exact ⟨_, Tryz.underlying47, rfl⟩
 ·cases h; exact ⟨_, Tryz.underlying48, rfl⟩
 ·cases h; exact ⟨_, Tryz.underlying49, rfl⟩
 ·cases h; exact ⟨_, Tryz.underlying50, rfl⟩
 ·cases h; exact ⟨_, Tryz.underlying51, rfl⟩
 ·cases h; exact ⟨_, Tryz.underlying53, rfl⟩
 ·cases h; exact ⟨_, Tryz.underlying54, rfl⟩
 ·cases h; exact ⟨_, Tryz.underlying55, rfl⟩
 ·cases h; exact ⟨_, Tryz.underlying60, rfl⟩
 ·cases h; exact ⟨_, Tryz.underlying63, rfl⟩
 ·cases h; exact ⟨_, Tryz.underlying64, rfl⟩
 ·cases h; exact ⟨_, Tryz.underlying65, rfl⟩
 ·cases h; exact ⟨_, Tryz.underlying66, rfl⟩
 ·cases h; exact ⟨_, Tryz.underlying67, rfl⟩
 ·cases h; exact ⟨_, Tryz.underlying73, rfl⟩
 ·cases h; exact ⟨_, Tryz.underlying74, rfl⟩
 ·cases h; exact ⟨_, Tryz.underlying75, rfl⟩
 ·cases h; exact ⟨_, Tryz.underlying77, rfl⟩
 ·cases h; exact ⟨_, Tryz.underlying84, rfl⟩
 ·cases h; exact ⟨_, Tryz.underlying85, rfl⟩
 ·cases h; exact ⟨_, Tryz.underlying86, rfl⟩
 ·cases h; exact ⟨_, Tryz.underlying87, rfl⟩
 ·cases h; exact ⟨_, Tryz.underlying89, rfl⟩
 ·cases h; exact ⟨_, Tryz.underlying90, rfl⟩
 ·cases h; exact ⟨_, Tryz.underlying91, rfl⟩
 ·cases h; exact ⟨_, Tryz.underlying102, rfl⟩
 ·cases h; exact ⟨_, Tryz.underlying103, rfl⟩
 ·cases h; exact ⟨_, Tryz.underlying104, rfl⟩
 ·cases h; exact ⟨_, Tryz.underlying112, rfl⟩
 ·cases h; exact ⟨_, Tryz.underlying129, rfl⟩
 ·cases h; exact ⟨_, Tryz.underlying130, rfl⟩
 ·cases h; exact ⟨_, Tryz.underlying131, rfl⟩
 ·cases h; exact ⟨_, Tryz.underlying132, rfl⟩
 ·cases h; exact ⟨_, Tryz.underlying135, rfl⟩
 ·cases h; exact ⟨_, Tryz.underlying140, rfl⟩
 ·cases h; exact ⟨_, Tryz.underlying141, rfl⟩
 ·cases h; exact ⟨_, Tryz.underlying155, rfl⟩
 ·cases h; exact ⟨_, Tryz.underlying159, rfl⟩
 ·cases h; exact ⟨_, Tryz.underlying162, rfl⟩
 ·cases h; exact ⟨_, Tryz.underlying163, rfl⟩
 ·cases h; exact ⟨_, Tryz.underlying164, rfl⟩
 ·cases h; exact ⟨_, Tryz.underlying166, rfl⟩
 ·cases h; exact ⟨_, Tryz.underlying183, rfl⟩
 ·cases h; exact ⟨_, Tryz.underlying187, rfl⟩
 ·cases h; exact ⟨_, Tryz.underlying193, rfl⟩
 ·cases h; exact ⟨_, Tryz.underlying194, rfl⟩
 ·cases h; exact ⟨_, Tryz.underlying198, rfl⟩
 ·cases h; exact ⟨_, Tryz.underlying200, rfl⟩
 ·cases h; exact ⟨_, Tryz.underlying204, rfl⟩
 ·cases h; exact ⟨_, Tryz.underlying213, rfl⟩
 ·cases h; exact ⟨_, Tryz.underlying214, rfl⟩
 ·cases h; exact ⟨_, Tryz.underlying219, rfl⟩
 ·cases h; exact ⟨_, Tryz.underlying220, rfl⟩
 ·cases h; exact ⟨_, Tryz.underlying227, rfl⟩
 ·cases h; exact ⟨_, Tryz.underlying228, rfl⟩
 ·cases h; exact ⟨_, Tryz.underlying229, rfl⟩
 ·cases h; exact ⟨_, Tryz.underlying232, rfl⟩
 ·cases h
def zeroTab : TypeId → Option (List Value)
 | 2 => some [.int .i64 0]
 | 3 => some [.int .i64 0]
 | 4 => some [.bool false]
 | 5 => some [.int .u8 0]
 | 9 => some [.string ⟨[].toArray⟩]
 | 12 => some [.int .u64 0]
 | 21 => some [.int .i32 0]
 | 22 => some [.slice none 0 0]
 | 23 => some [.slice none 0 0]
 | 24 => some [.slice none 0 0]
 | 27 => some [.int .i64 0]
 | 36 => some [.slice none 0 0]
 | 37 => some [.int .i64 0, .int .i64 0]
 | 38 => some [.int .i64 0, .int .i64 0]
 | 44 => some [.int .i32 0]
 | 45 => some [.slice none 0 0]
 | 46 => some [.int .i64 0, .string ⟨[].toArray⟩, .string ⟨[].toArray⟩, .int .i32 0, .slice none 0 0, .int .i64 0]
 | 47 => some [.int .i64 0, .string ⟨[].toArray⟩, .string ⟨[].toArray⟩, .int .i32 0, .slice none 0 0, .int .i64 0]
 | 48 => some [.pointer none]
 | 49 => some [.pointer none]
 | 50 => some [.pointer none]
 | 51 => some [.slice none 0 0]
 | 53 => some [.pointer none, .slice none 0 0]
 | 54 => some [.slice none 0 0, .pointer none, .slice none 0 0, .string ⟨[].toArray⟩]
 | 55 => some [.slice none 0 0, .pointer none, .slice none 0 0, .string ⟨[].toArray⟩]
 | 60 => some [.slice none 0 0]
 | 63 => some [.pointer none]
 | 64 => some [.string ⟨[].toArray⟩, .int .i64 0, .int .i64 0]
 | 65 => some [.string ⟨[].toArray⟩, .int .i64 0, .int .i64 0]
 | 66 => some [.int .i64 0, .string ⟨[].toArray⟩, .int .i32 0, .int .i64 0, .int .i64 0]
 | 67 => some [.int .i64 0, .string ⟨[].toArray⟩, .int .i32 0, .int .i64 0, .int .i64 0]
 | 73 => some [.pointer none]
 | 74 => some [.slice none 0 0, .int .i64 0]
 | 75 => some [.slice none 0 0, .int .i64 0]
 | 77 => some [.pointer none]
 | 84 => some [.pointer none]
 | 85 => some [.pointer none]
 | 86 => some [.slice none 0 0, .int .i64 0, .int .i64 0, .bool false]
 | 87 => some [.slice none 0 0, .int .i64 0, .int .i64 0, .bool false]
 | 89 => some [.pointer none]
 | 90 => some [.slice none 0 0, .slice none 0 0, .int .i64 0, .bool false]
 | 91 => some [.slice none 0 0, .slice none 0 0, .int .i64 0, .bool false]
 | 102 => some [.slice none 0 0]
 | 103 => some [.int .i64 0, .string ⟨[].toArray⟩, .string ⟨[].toArray⟩, .int .i32 0, .slice none 0 0, .int .i64 0, .slice none 0 0]
 | 104 => some [.int .i64 0, .string ⟨[].toArray⟩, .string ⟨[].toArray⟩, .int .i32 0, .slice none 0 0, .int .i64 0, .slice none 0 0]
 | 112 => some [.nilIface]
 | 129 => some [.pointer none]
 | 130 => some [.slice none 0 0, .int .i64 0, .bool false]
 | 131 => some [.slice none 0 0, .int .i64 0, .bool false]
 | 132 => some [.pointer none]
 | 135 => some [.pointer none]
 | 140 => some []
 | 141 => some []
 | 155 => some [.slice none 0 0]
 | 159 => some [.string ⟨[].toArray⟩, .string ⟨[].toArray⟩, .string ⟨[].toArray⟩, .string ⟨[].toArray⟩, .string ⟨[].toArray⟩, .string ⟨[].toArray⟩, .string ⟨[].toArray⟩, .string ⟨[].toArray⟩, .string ⟨[].toArray⟩, .string ⟨[].toArray⟩, .string ⟨[].toArray⟩, .string ⟨[].toArray⟩, .string ⟨[].toArray⟩]
 | 162 => some [.slice none 0 0]
 | 163 => some [.int .i64 0, .string ⟨[].toArray⟩, .string ⟨[].toArray⟩, .int .i32 0, .slice none 0 0, .int .i64 0, .slice none 0 0]
 | 164 => some [.int .i64 0, .string ⟨[].toArray⟩, .string ⟨[].toArray⟩, .int .i32 0, .slice none 0 0, .int .i64 0, .slice none 0 0]
 | 166 => some [.int .u64 0]
 | 183 => some [.string ⟨[].toArray⟩, .string ⟨[].toArray⟩, .string ⟨[].toArray⟩, .string ⟨[].toArray⟩]
 | 187 => some [.int .u32 0]
 | 198 => some [.pointer none]
 | 200 => some [.int .u64 0]
 | 213 => some [.string ⟨[].toArray⟩, .string ⟨[].toArray⟩, .string ⟨[].toArray⟩, .string ⟨[].toArray⟩, .string ⟨[].toArray⟩, .string ⟨[].toArray⟩, .string ⟨[].toArray⟩, .string ⟨[].toArray⟩, .string ⟨[].toArray⟩, .string ⟨[].toArray⟩, .string ⟨[].toArray⟩, .string ⟨[].toArray⟩, .string ⟨[].toArray⟩, .string ⟨[].toArray⟩]
 | 214 => some [.string ⟨[].toArray⟩, .string ⟨[].toArray⟩, .string ⟨[].toArray⟩, .string ⟨[].toArray⟩, .string ⟨[].toArray⟩, .string ⟨[].toArray⟩, .string ⟨[].toArray⟩, .string ⟨[].toArray⟩, .string ⟨[].toArray⟩, .string ⟨[].toArray⟩, .string ⟨[].toArray⟩, .string ⟨[].toArray⟩, .string ⟨[].toArray⟩, .string ⟨[].toArray⟩, .string ⟨[].toArray⟩, .string ⟨[].toArray⟩, .string ⟨[].toArray⟩, .string ⟨[].toArray⟩, .string ⟨[].toArray⟩, .string ⟨[].toArray⟩]
 | 219 => some [.int .u64 0, .int .u64 0, .int .u64 0, .int .u64 0, .int .u64 0, .int .u64 0, .int .u64 0, .int .u64 0, .int .u64 0, .int .u64 0, .int .u64 0, .int .u64 0, .int .u64 0, .int .u64 0, .int .u64 0, .int .u64 0, .int .u64 0, .int .u64 0, .int .u64 0, .int .u64 0]
 | _ => none
theorem zero_of {t : TypeId} {z : Value} {l : List Value} (h : (Tryz.prog.info? t).map (·.zero) = some (some z)) (hl : z.cells = l.toArray) : Zero Tryz.prog t l := by
 obtain ⟨i, hi, hz⟩ := Option.map_eq_some_iff.1 h
 exact ⟨i, z, hi, hz, hl⟩
theorem zeroT {t : TypeId} {l : List Value} (h : zeroTab t = some l) : Zero Tryz.prog t l := by
 unfold zeroTab at h
 split at h
 ·cases h; exact zero_of (z := (.int .i64 0)) Zj rfl
 ·cases h; exact zero_of (z := (.int .i64 0)) Zj rfl
 ·cases h; exact zero_of (z := (.bool false)) Zj rfl
 ·cases h; exact zero_of (z := (.int .u8 0)) Zj rfl
 ·cases h; exact zero_of (z := (.string ⟨[].toArray⟩)) Zj rfl
 ·cases h; exact zero_of (z := (.int .u64 0)) Zj rfl
 ·cases h; exact zero_of (z := (.int .i32 0)) Zj rfl
 ·cases h; exact zero_of (z := (.slice none 0 0)) Zj rfl
 ·cases h; exact zero_of (z := (.agg #[.slice none 0 0])) Zj rfl
 ·cases h; exact zero_of (z := (.agg #[.slice none 0 0])) Zj rfl
 ·cases h; exact zero_of (z := (.int .i64 0)) Zj rfl
 ·cases h; exact zero_of (z := (.slice none 0 0)) Zj rfl
 ·cases h; exact zero_of (z := (.agg #[.int .i64 0, .int .i64 0])) Zj rfl
 ·cases h; exact zero_of (z := (.agg #[.int .i64 0, .int .i64 0])) Zj rfl
 ·cases h; exact zero_of (z := (.int .i32 0)) Zj rfl
 ·cases h; exact zero_of (z := (.slice none 0 0)) Zj rfl
 ·cases h; exact zero_of (z := (.agg #[.int .i64 0, .string ⟨[].toArray⟩, .string ⟨[].toArray⟩, .int .i32 0, .slice none 0 0, .int .i64 0])) Zj rfl
 ·cases h; exact zero_of (z := (.agg #[.int .i64 0, .string ⟨[].toArray⟩, .string ⟨[].toArray⟩, .int .i32 0, .slice none 0 0, .int .i64 0])) Zj rfl
 ·cases h; exact zero_of (z := (.pointer none)) Zj rfl
 ·cases h; exact zero_of (z := (.pointer none)) Zj rfl
 ·cases h; exact zero_of (z := (.pointer none)) Zj rfl
 ·cases h; exact zero_of (z := (.slice none 0 0)) Zj rfl
 ·cases h; exact zero_of (z := (.agg #[.pointer none, .slice none 0 0])) Zj rfl
 ·cases h; exact zero_of (z := (.agg #[.slice none 0 0, .pointer none, .slice none 0 0, .string ⟨[].toArray⟩])) Zj rfl
 ·cases h; exact zero_of (z := (.agg #[.slice none 0 0, .pointer none, .slice none 0 0, .string ⟨[].toArray⟩])) Zj rfl
 ·cases h; exact zero_of (z := (.slice none 0 0)) Zj rfl
 ·cases h; exact zero_of (z := (.pointer none)) Zj rfl
 ·cases h; exact zero_of (z := (.agg #[.string ⟨[].toArray⟩, .int .i64 0, .int .i64 0])) Zj rfl
 ·cases h; exact zero_of (z := (.agg #[.string ⟨[].toArray⟩, .int .i64 0, .int .i64 0])) Zj rfl
 ·cases h; exact zero_of (z := (.agg #[.int .i64 0, .string ⟨[].toArray⟩, .int .i32 0, .int .i64 0, .int .i64 0])) Zj rfl
 ·cases h; exact zero_of (z := (.agg #[.int .i64 0, .string ⟨[].toArray⟩, .int .i32 0, .int .i64 0, .int .i64 0])) Zj rfl
 ·cases h; exact zero_of (z := (.pointer none)) Zj rfl
 ·cases h; exact zero_of (z := (.agg #[.slice none 0 0, .int .i64 0])) Zj rfl
 ·cases h; exact zero_of (z := (.agg #[.slice none 0 0, .int .i64 0])) Zj rfl
 ·cases h; exact zero_of (z := (.pointer none)) Zj rfl
 ·cases h; exact zero_of (z := (.pointer none)) Zj rfl
 ·cases h; exact zero_of (z := (.pointer none)) Zj rfl
 ·cases h; exact zero_of (z := (.agg #[.slice none 0 0, .int .i64 0, .int .i64 0, .bool false])) Zj rfl
 ·cases h; exact zero_of (z := (.agg #[.slice none 0 0, .int .i64 0, .int .i64 0, .bool false])) Zj rfl
 ·cases h; exact zero_of (z := (.pointer none)) Zj rfl
 ·cases h; exact zero_of (z := (.agg #[.slice none 0 0, .slice none 0 0, .int .i64 0, .bool false])) Zj rfl
 ·cases h; exact zero_of (z := (.agg #[.slice none 0 0, .slice none 0 0, .int .i64 0, .bool false])) Zj rfl
 ·cases h; exact zero_of (z := (.slice none 0 0)) Zj rfl
 ·cases h; exact zero_of (z := (.agg #[.int .i64 0, .string ⟨[].toArray⟩, .string ⟨[].toArray⟩, .int .i32 0, .slice none 0 0, .int .i64 0, .slice none 0 0])) Zj rfl
 ·cases h; exact zero_of (z := (.agg #[.int .i64 0, .string ⟨[].toArray⟩, .string ⟨[].toArray⟩, .int .i32 0, .slice none 0 0, .int .i64 0, .slice none 0 0])) Zj rfl
 ·cases h; exact zero_of (z := (.nilIface)) Zj rfl
 ·cases h; exact zero_of (z := (.pointer none)) Zj rfl
 ·cases h; exact zero_of (z := (.agg #[.slice none 0 0, .int .i64 0, .bool false])) Zj rfl
 ·cases h; exact zero_of (z := (.agg #[.slice none 0 0, .int .i64 0, .bool false])) Zj rfl
 ·cases h; exact zero_of (z := (.pointer none)) Zj rfl
 ·cases h; exact zero_of (z := (.pointer none)) Zj rfl
 ·cases h; exact zero_of (z := (.agg #[])) Zj rfl
 ·cases h; exact zero_of (z := (.agg #[])) Zj rfl
 ·cases h; exact zero_of (z := (.slice none 0 0)) Zj rfl
 ·cases h; exact zero_of (z := (.agg #[.string ⟨[].toArray⟩, .string ⟨[].toArray⟩, .string ⟨[].toArray⟩, .string ⟨[].toArray⟩, .string ⟨[].toArray⟩, .string ⟨[].toArray⟩, .string ⟨[].toArray⟩, .string ⟨[].toArray⟩, .string ⟨[].toArray⟩, .string ⟨[].toArray⟩, .string ⟨[].toArray⟩, .string ⟨[].toArray⟩, .string ⟨[].toArray⟩])) Zj rfl
 ·cases h; exact zero_of (z := (.slice none 0 0)) Zj rfl
 ·cases h; exact zero_of (z := (.agg #[.int .i64 0, .string ⟨[].toArray⟩, .string ⟨[].toArray⟩, .int .i32 0, .slice none 0 0, .int .i64 0, .slice none 0 0])) Zj rfl
 ·cases h; exact zero_of (z := (.agg #[.int .i64 0, .string ⟨[].toArray⟩, .string ⟨[].toArray⟩, .int .i32 0, .slice none 0 0, .int .i64 0, .slice none 0 0])) Zj rfl
 ·cases h; exact zero_of (z := (.int .u64 0)) Zj rfl
 ·cases h; exact zero_of (z := (.agg #[.string ⟨[].toArray⟩, .string ⟨[].toArray⟩, .string ⟨[].toArray⟩, .string ⟨[].toArray⟩])) Zj rfl
 ·cases h; exact zero_of (z := (.int .u32 0)) Zj rfl
 ·cases h; exact zero_of (z := (.pointer none)) Zj rfl
 ·cases h; exact zero_of (z := (.int .u64 0)) Zj rfl
 ·cases h; exact zero_of (z := (.agg #[.string ⟨[].toArray⟩, .string ⟨[].toArray⟩, .string ⟨[].toArray⟩, .string ⟨[].toArray⟩, .string ⟨[].toArray⟩, .string ⟨[].toArray⟩, .string ⟨[].toArray⟩, .string ⟨[].toArray⟩, .string ⟨[].toArray⟩, .string ⟨[].toArray⟩, .string ⟨[].toArray⟩, .string ⟨[].toArray⟩, .string ⟨[].toArray⟩, .string ⟨[].toArray⟩])) Zj rfl
 ·cases h; exact zero_of (z := (.agg #[.string ⟨[].toArray⟩, .string ⟨[].toArray⟩, .string ⟨[].toArray⟩, .string ⟨[].toArray⟩, .string ⟨[].toArray⟩, .string ⟨[].toArray⟩, .string ⟨[].toArray⟩, .string ⟨[].toArray⟩, .string ⟨[].toArray⟩, .string ⟨[].toArray⟩, .string ⟨[].toArray⟩, .string ⟨[].toArray⟩, .string ⟨[].toArray⟩, .string ⟨[].toArray⟩, .string ⟨[].toArray⟩, .string ⟨[].toArray⟩, .string ⟨[].toArray⟩, .string ⟨[].toArray⟩, .string ⟨[].toArray⟩, .string ⟨[].toArray⟩])) Zj rfl
 ·cases h; exact zero_of (z := (.agg #[.int .u64 0, .int .u64 0, .int .u64 0, .int .u64 0, .int .u64 0, .int .u64 0, .int .u64 0, .int .u64 0, .int .u64 0, .int .u64 0, .int .u64 0, .int .u64 0, .int .u64 0, .int .u64 0, .int .u64 0, .int .u64 0, .int .u64 0, .int .u64 0, .int .u64 0, .int .u64 0])) Zj rfl
 ·cases h
def slTab : TypeId → Option TypeId
 | 22 => some 47
 | 36 => some 67
 | 45 => some 3
 | 51 => some 5
 | 60 => some 9
 | 102 => some 77
 | 155 => some 60
 | 162 => some 132
 | _ => none
theorem slT {t e : TypeId} (h : slTab t = some e) : Sl Tryz.prog t e := by
 unfold slTab at h
 split at h
 ·cases h; exact Tryz.underlying22
 ·cases h; exact Tryz.underlying36
 ·cases h; exact Tryz.underlying45
 ·cases h; exact Tryz.underlying51
 ·cases h; exact Tryz.underlying60
 ·cases h; exact Tryz.underlying102
 ·cases h; exact Tryz.underlying155
 ·cases h; exact Tryz.underlying162
 ·cases h
def intTab : TypeId → Option IntKind
 | 2 => some IntKind.i64
 | 3 => some IntKind.i64
 | 5 => some IntKind.u8
 | 12 => some IntKind.u64
 | 21 => some IntKind.i32
 | 27 => some IntKind.i64
 | 44 => some IntKind.i32
 | 166 => some IntKind.u64
 | 187 => some IntKind.u32
 | 200 => some IntKind.u64
 | _ => none
theorem intT {t : TypeId} {k : IntKind} (h : intTab t = some k) : Tryz.prog.underlying t = some (.int k) := by
 unfold intTab at h
 split at h
 ·cases h; exact Tryz.underlying2
 ·cases h; exact Tryz.underlying3
 ·cases h; exact Tryz.underlying5
 ·cases h; exact Tryz.underlying12
 ·cases h; exact Tryz.underlying21
 ·cases h; exact Tryz.underlying27
 ·cases h; exact Tryz.underlying44
 ·cases h; exact Tryz.underlying166
 ·cases h; exact Tryz.underlying187
 ·cases h; exact Tryz.underlying200
 ·cases h
def strTab : TypeId → Option Unit
 | 9 => some ()
 | _ => none
theorem strT {t : TypeId} (h : strTab t = some ()) : Tryz.prog.underlying t = some .string := by
 unfold strTab at h
 split at h
 ·exact Tryz.underlying9
 ·cases h
theorem dT {t : TypeId} {k : IntKind} (h : intTab t = some k) : ∃ d, Tryz.prog.underlying t = some d := ⟨_, intT h⟩
def fldTab : TypeId → Nat → Option (Nat × TypeId)
 | 23, 0 => some (0, 22)
 | 24, 0 => some (0, 22)
 | 37, 0 => some (0, 27)
 | 37, 1 => some (1, 3)
 | 38, 0 => some (0, 27)
 | 38, 1 => some (1, 3)
 | 46, 0 => some (0, 3)
 | 46, 1 => some (1, 9)
 | 46, 2 => some (2, 9)
 | 46, 3 => some (3, 44)
 | 46, 4 => some (4, 45)
 | 46, 5 => some (5, 3)
 | 47, 0 => some (0, 3)
 | 47, 1 => some (1, 9)
 | 47, 2 => some (2, 9)
 | 47, 3 => some (3, 44)
 | 47, 4 => some (4, 45)
 | 47, 5 => some (5, 3)
 | 53, 0 => some (0, 50)
 | 53, 1 => some (1, 51)
 | 54, 0 => some (0, 22)
 | 54, 1 => some (1, 53)
 | 54, 2 => some (3, 9)
 | 55, 0 => some (0, 22)
 | 55, 1 => some (1, 53)
 | 55, 2 => some (3, 9)
 | 64, 0 => some (0, 9)
 | 64, 1 => some (1, 3)
 | 64, 2 => some (2, 3)
 | 65, 0 => some (0, 9)
 | 65, 1 => some (1, 3)
 | 65, 2 => some (2, 3)
 | 66, 0 => some (0, 3)
 | 66, 1 => some (1, 9)
 | 66, 2 => some (2, 44)
 | 66, 3 => some (3, 3)
 | 66, 4 => some (4, 3)
 | 67, 0 => some (0, 3)
 | 67, 1 => some (1, 9)
 | 67, 2 => some (2, 44)
 | 67, 3 => some (3, 3)
 | 67, 4 => some (4, 3)
 | 74, 0 => some (0, 36)
 | 74, 1 => some (1, 3)
 | 75, 0 => some (0, 36)
 | 75, 1 => some (1, 3)
 | 86, 0 => some (0, 22)
 | 86, 1 => some (1, 3)
 | 86, 2 => some (2, 3)
 | 86, 3 => some (3, 4)
 | 87, 0 => some (0, 22)
 | 87, 1 => some (1, 3)
 | 87, 2 => some (2, 3)
 | 87, 3 => some (3, 4)
 | 90, 0 => some (0, 24)
 | 90, 1 => some (1, 60)
 | 90, 2 => some (2, 3)
 | 90, 3 => some (3, 4)
 | 91, 0 => some (0, 24)
 | 91, 1 => some (1, 60)
 | 91, 2 => some (2, 3)
 | 91, 3 => some (3, 4)
 | 103, 0 => some (0, 47)
 | 103, 1 => some (6, 102)
 | 104, 0 => some (0, 47)
 | 104, 1 => some (6, 102)
 | 130, 0 => some (0, 36)
 | 130, 1 => some (1, 3)
 | 130, 2 => some (2, 4)
 | 131, 0 => some (0, 36)
 | 131, 1 => some (1, 3)
 | 131, 2 => some (2, 4)
 | 163, 0 => some (0, 47)
 | 163, 1 => some (6, 162)
 | 164, 0 => some (0, 47)
 | 164, 1 => some (6, 162)
 | _, _ => none
theorem fldT {t f off : Nat} {ft : TypeId} (h : fldTab t f = some (off, ft)) : Fld Tryz.prog t f off ft := by
 unfold fldTab at h
 split at h
 ·cases h; exact ⟨_, _, Tryz.underlying23, rfl, rfl, rfl, 0, szT rfl⟩
 ·cases h; exact ⟨_, _, Tryz.underlying24, rfl, rfl, rfl, 0, szT rfl⟩
 ·cases h; exact ⟨_, _, Tryz.underlying37, rfl, rfl, rfl, 0, szT rfl⟩
 ·cases h; exact ⟨_, _, Tryz.underlying37, rfl, rfl, rfl, 0, szT rfl⟩
 ·cases h; exact ⟨_, _, Tryz.underlying38, rfl, rfl, rfl, 0, szT rfl⟩
 ·cases h; exact ⟨_, _, Tryz.underlying38, rfl, rfl, rfl, 0, szT rfl⟩
 ·cases h; exact ⟨_, _, Tryz.underlying46, rfl, rfl, rfl, 0, szT rfl⟩
 ·cases h; exact ⟨_, _, Tryz.underlying46, rfl, rfl, rfl, 0, szT rfl⟩
 ·cases h; exact ⟨_, _, Tryz.underlying46, rfl, rfl, rfl, 0, szT rfl⟩
 ·cases h; exact ⟨_, _, Tryz.underlying46, rfl, rfl, rfl, 0, szT rfl⟩
 ·cases h; exact ⟨_, _, Tryz.underlying46, rfl, rfl, rfl, 0, szT rfl⟩
 ·cases h; exact ⟨_, _, Tryz.underlying46, rfl, rfl, rfl, 0, szT rfl⟩
 ·cases h; exact ⟨_, _, Tryz.underlying47, rfl, rfl, rfl, 0, szT rfl⟩
 ·cases h; exact ⟨_, _, Tryz.underlying47, rfl, rfl, rfl, 0, szT rfl⟩
 ·cases h; exact ⟨_, _, Tryz.underlying47, rfl, rfl, rfl, 0, szT rfl⟩
 ·cases h; exact ⟨_, _, Tryz.underlying47, rfl, rfl, rfl, 0, szT rfl⟩
 ·cases h; exact ⟨_, _, Tryz.underlying47, rfl, rfl, rfl, 0, szT rfl⟩
 ·cases h; exact ⟨_, _, Tryz.underlying47, rfl, rfl, rfl, 0, szT rfl⟩
 ·cases h; exact ⟨_, _, Tryz.underlying53, rfl, rfl, rfl, 0, szT rfl⟩
 ·cases h; exact ⟨_, _, Tryz.underlying53, rfl, rfl, rfl, 0, szT rfl⟩
 ·cases h; exact ⟨_, _, Tryz.underlying54, rfl, rfl, rfl, 0, szT rfl⟩
 ·cases h; exact ⟨_, _, Tryz.underlying54, rfl, rfl, rfl, 1, szT rfl⟩
 ·cases h; exact ⟨_, _, Tryz.underlying54, rfl, rfl, rfl, 0, szT rfl⟩
 ·cases h; exact ⟨_, _, Tryz.underlying55, rfl, rfl, rfl, 0, szT rfl⟩
 ·cases h; exact ⟨_, _, Tryz.underlying55, rfl, rfl, rfl, 1, szT rfl⟩
 ·cases h; exact ⟨_, _, Tryz.underlying55, rfl, rfl, rfl, 0, szT rfl⟩
 ·cases h; exact ⟨_, _, Tryz.underlying64, rfl, rfl, rfl, 0, szT rfl⟩
 ·cases h; exact ⟨_, _, Tryz.underlying64, rfl, rfl, rfl, 0, szT rfl⟩
 ·cases h; exact ⟨_, _, Tryz.underlying64, rfl, rfl, rfl, 0, szT rfl⟩
 ·cases h; exact ⟨_, _, Tryz.underlying65, rfl, rfl, rfl, 0, szT rfl⟩
 ·cases h; exact ⟨_, _, Tryz.underlying65, rfl, rfl, rfl, 0, szT rfl⟩
 ·cases h; exact ⟨_, _, Tryz.underlying65, rfl, rfl, rfl, 0, szT rfl⟩
 ·cases h; exact ⟨_, _, Tryz.underlying66, rfl, rfl, rfl, 0, szT rfl⟩
 ·cases h; exact ⟨_, _, Tryz.underlying66, rfl, rfl, rfl, 0, szT rfl⟩
 ·cases h; exact ⟨_, _, Tryz.underlying66, rfl, rfl, rfl, 0, szT rfl⟩
 ·cases h; exact ⟨_, _, Tryz.underlying66, rfl, rfl, rfl, 0, szT rfl⟩
 ·cases h; exact ⟨_, _, Tryz.underlying66, rfl, rfl, rfl, 0, szT rfl⟩
 ·cases h; exact ⟨_, _, Tryz.underlying67, rfl, rfl, rfl, 0, szT rfl⟩
 ·cases h; exact ⟨_, _, Tryz.underlying67, rfl, rfl, rfl, 0, szT rfl⟩
 ·cases h; exact ⟨_, _, Tryz.underlying67, rfl, rfl, rfl, 0, szT rfl⟩
 ·cases h; exact ⟨_, _, Tryz.underlying67, rfl, rfl, rfl, 0, szT rfl⟩
 ·cases h; exact ⟨_, _, Tryz.underlying67, rfl, rfl, rfl, 0, szT rfl⟩
 ·cases h; exact ⟨_, _, Tryz.underlying74, rfl, rfl, rfl, 0, szT rfl⟩
 ·cases h; exact ⟨_, _, Tryz.underlying74, rfl, rfl, rfl, 0, szT rfl⟩
 ·cases h; exact ⟨_, _, Tryz.underlying75, rfl, rfl, rfl, 0, szT rfl⟩
 ·cases h; exact ⟨_, _, Tryz.underlying75, rfl, rfl, rfl, 0, szT rfl⟩
 ·cases h; exact ⟨_, _, Tryz.underlying86, rfl, rfl, rfl, 0, szT rfl⟩
 ·cases h; exact ⟨_, _, Tryz.underlying86, rfl, rfl, rfl, 0, szT rfl⟩
 ·cases h; exact ⟨_, _, Tryz.underlying86, rfl, rfl, rfl, 0, szT rfl⟩
 ·cases h; exact ⟨_, _, Tryz.underlying86, rfl, rfl, rfl, 0, szT rfl⟩
 ·cases h; exact ⟨_, _, Tryz.underlying87, rfl, rfl, rfl, 0, szT rfl⟩
 ·cases h; exact ⟨_, _, Tryz.underlying87, rfl, rfl, rfl, 0, szT rfl⟩
 ·cases h; exact ⟨_, _, Tryz.underlying87, rfl, rfl, rfl, 0, szT rfl⟩
 ·cases h; exact ⟨_, _, Tryz.underlying87, rfl, rfl, rfl, 0, szT rfl⟩
 ·cases h; exact ⟨_, _, Tryz.underlying90, rfl, rfl, rfl, 0, szT rfl⟩
 ·cases h; exact ⟨_, _, Tryz.underlying90, rfl, rfl, rfl, 0, szT rfl⟩
 ·cases h; exact ⟨_, _, Tryz.underlying90, rfl, rfl, rfl, 0, szT rfl⟩
 ·cases h; exact ⟨_, _, Tryz.underlying90, rfl, rfl, rfl, 0, szT rfl⟩
 ·cases h; exact ⟨_, _, Tryz.underlying91, rfl, rfl, rfl, 0, szT rfl⟩
 ·cases h; exact ⟨_, _, Tryz.underlying91, rfl, rfl, rfl, 0, szT rfl⟩
 ·cases h; exact ⟨_, _, Tryz.underlying91, rfl, rfl, rfl, 0, szT rfl⟩
 ·cases h; exact ⟨_, _, Tryz.underlying91, rfl, rfl, rfl, 0, szT rfl⟩
 ·cases h; exact ⟨_, _, Tryz.underlying103, rfl, rfl, rfl, 5, szT rfl⟩
 ·cases h; exact ⟨_, _, Tryz.underlying103, rfl, rfl, rfl, 0, szT rfl⟩
 ·cases h; exact ⟨_, _, Tryz.underlying104, rfl, rfl, rfl, 5, szT rfl⟩
 ·cases h; exact ⟨_, _, Tryz.underlying104, rfl, rfl, rfl, 0, szT rfl⟩
 ·cases h; exact ⟨_, _, Tryz.underlying130, rfl, rfl, rfl, 0, szT rfl⟩
 ·cases h; exact ⟨_, _, Tryz.underlying130, rfl, rfl, rfl, 0, szT rfl⟩
 ·cases h; exact ⟨_, _, Tryz.underlying130, rfl, rfl, rfl, 0, szT rfl⟩
 ·cases h; exact ⟨_, _, Tryz.underlying131, rfl, rfl, rfl, 0, szT rfl⟩
 ·cases h; exact ⟨_, _, Tryz.underlying131, rfl, rfl, rfl, 0, szT rfl⟩
 ·cases h; exact ⟨_, _, Tryz.underlying131, rfl, rfl, rfl, 0, szT rfl⟩
 ·cases h; exact ⟨_, _, Tryz.underlying163, rfl, rfl, rfl, 5, szT rfl⟩
 ·cases h; exact ⟨_, _, Tryz.underlying163, rfl, rfl, rfl, 0, szT rfl⟩
 ·cases h; exact ⟨_, _, Tryz.underlying164, rfl, rfl, rfl, 5, szT rfl⟩
 ·cases h; exact ⟨_, _, Tryz.underlying164, rfl, rfl, rfl, 0, szT rfl⟩
 ·cases h
def bldTab : TypeId → Option (List Value × List (Nat × Nat))
 | 23 => some ([.slice none 0 0], [(0, 1)])
 | 24 => some ([.slice none 0 0], [(0, 1)])
 | 37 => some ([.int .i64 0, .int .i64 0], [(0, 1), (1, 1)])
 | 38 => some ([.int .i64 0, .int .i64 0], [(0, 1), (1, 1)])
 | 46 => some ([.int .i64 0, .string ⟨[].toArray⟩, .string ⟨[].toArray⟩, .int .i32 0, .slice none 0 0, .int .i64 0], [(0, 1), (1, 1), (2, 1), (3, 1), (4, 1), (5, 1)])
 | 47 => some ([.int .i64 0, .string ⟨[].toArray⟩, .string ⟨[].toArray⟩, .int .i32 0, .slice none 0 0, .int .i64 0], [(0, 1), (1, 1), (2, 1), (3, 1), (4, 1), (5, 1)])
 | 53 => some ([.pointer none, .slice none 0 0], [(0, 1), (1, 1)])
 | 54 => some ([.slice none 0 0, .pointer none, .slice none 0 0, .string ⟨[].toArray⟩], [(0, 1), (1, 2), (3, 1)])
 | 55 => some ([.slice none 0 0, .pointer none, .slice none 0 0, .string ⟨[].toArray⟩], [(0, 1), (1, 2), (3, 1)])
 | 64 => some ([.string ⟨[].toArray⟩, .int .i64 0, .int .i64 0], [(0, 1), (1, 1), (2, 1)])
 | 65 => some ([.string ⟨[].toArray⟩, .int .i64 0, .int .i64 0], [(0, 1), (1, 1), (2, 1)])
 | 66 => some ([.int .i64 0, .string ⟨[].toArray⟩, .int .i32 0, .int .i64 0, .int .i64 0], [(0, 1), (1, 1), (2, 1), (3, 1), (4, 1)])
 | 67 => some ([.int .i64 0, .string ⟨[].toArray⟩, .int .i32 0, .int .i64 0, .int .i64 0], [(0, 1), (1, 1), (2, 1), (3, 1), (4, 1)])
 | 74 => some ([.slice none 0 0, .int .i64 0], [(0, 1), (1, 1)])
 | 75 => some ([.slice none 0 0, .int .i64 0], [(0, 1), (1, 1)])
 | 86 => some ([.slice none 0 0, .int .i64 0, .int .i64 0, .bool false], [(0, 1), (1, 1), (2, 1), (3, 1)])
 | 87 => some ([.slice none 0 0, .int .i64 0, .int .i64 0, .bool false], [(0, 1), (1, 1), (2, 1), (3, 1)])
 | 90 => some ([.slice none 0 0, .slice none 0 0, .int .i64 0, .bool false], [(0, 1), (1, 1), (2, 1), (3, 1)])
 | 91 => some ([.slice none 0 0, .slice none 0 0, .int .i64 0, .bool false], [(0, 1), (1, 1), (2, 1), (3, 1)])
 | 103 => some ([.int .i64 0, .string ⟨[].toArray⟩, .string ⟨[].toArray⟩, .int .i32 0, .slice none 0 0, .int .i64 0, .slice none 0 0], [(0, 6), (6, 1)])
 | 104 => some ([.int .i64 0, .string ⟨[].toArray⟩, .string ⟨[].toArray⟩, .int .i32 0, .slice none 0 0, .int .i64 0, .slice none 0 0], [(0, 6), (6, 1)])
 | 130 => some ([.slice none 0 0, .int .i64 0, .bool false], [(0, 1), (1, 1), (2, 1)])
 | 131 => some ([.slice none 0 0, .int .i64 0, .bool false], [(0, 1), (1, 1), (2, 1)])
 | 140 => some ([], [])
 | 141 => some ([], [])
 | 159 => some ([.string ⟨[].toArray⟩, .string ⟨[].toArray⟩, .string ⟨[].toArray⟩, .string ⟨[].toArray⟩, .string ⟨[].toArray⟩, .string ⟨[].toArray⟩, .string ⟨[].toArray⟩, .string ⟨[].toArray⟩, .string ⟨[].toArray⟩, .string ⟨[].toArray⟩, .string ⟨[].toArray⟩, .string ⟨[].toArray⟩, .string ⟨[].toArray⟩], [(0, 1), (1, 1), (2, 1), (3, 1), (4, 1), (5, 1), (6, 1), (7, 1), (8, 1), (9, 1), (10, 1), (11, 1), (12, 1)])
 | 163 => some ([.int .i64 0, .string ⟨[].toArray⟩, .string ⟨[].toArray⟩, .int .i32 0, .slice none 0 0, .int .i64 0, .slice none 0 0], [(0, 6), (6, 1)])
 | 164 => some ([.int .i64 0, .string ⟨[].toArray⟩, .string ⟨[].toArray⟩, .int .i32 0, .slice none 0 0, .int .i64 0, .slice none 0 0], [(0, 6), (6, 1)])
 | 183 => some ([.string ⟨[].toArray⟩, .string ⟨[].toArray⟩, .string ⟨[].toArray⟩, .string ⟨[].toArray⟩], [(0, 1), (1, 1), (2, 1), (3, 1)])
 | 213 => some ([.string ⟨[].toArray⟩, .string ⟨[].toArray⟩, .string ⟨[].toArray⟩, .string ⟨[].toArray⟩, .string ⟨[].toArray⟩, .string ⟨[].toArray⟩, .string ⟨[].toArray⟩, .string ⟨[].toArray⟩, .string ⟨[].toArray⟩, .string ⟨[].toArray⟩, .string ⟨[].toArray⟩, .string ⟨[].toArray⟩, .string ⟨[].toArray⟩, .string ⟨[].toArray⟩], [(0, 1), (1, 1), (2, 1), (3, 1), (4, 1), (5, 1), (6, 1), (7, 1), (8, 1), (9, 1), (10, 1), (11, 1), (12, 1), (13, 1)])
 | 214 => some ([.string ⟨[].toArray⟩, .string ⟨[].toArray⟩, .string ⟨[].toArray⟩, .string ⟨[].toArray⟩, .string ⟨[].toArray⟩, .string ⟨[].toArray⟩, .string ⟨[].toArray⟩, .string ⟨[].toArray⟩, .string ⟨[].toArray⟩, .string ⟨[].toArray⟩, .string ⟨[].toArray⟩, .string ⟨[].toArray⟩, .string ⟨[].toArray⟩, .string ⟨[].toArray⟩, .string ⟨[].toArray⟩, .string ⟨[].toArray⟩, .string ⟨[].toArray⟩, .string ⟨[].toArray⟩, .string ⟨[].toArray⟩, .string ⟨[].toArray⟩], [(0, 1), (1, 1), (2, 1), (3, 1), (4, 1), (5, 1), (6, 1), (7, 1), (8, 1), (9, 1), (10, 1), (11, 1), (12, 1), (13, 1), (14, 1), (15, 1), (16, 1), (17, 1), (18, 1), (19, 1)])
 | 219 => some ([.int .u64 0, .int .u64 0, .int .u64 0, .int .u64 0, .int .u64 0, .int .u64 0, .int .u64 0, .int .u64 0, .int .u64 0, .int .u64 0, .int .u64 0, .int .u64 0, .int .u64 0, .int .u64 0, .int .u64 0, .int .u64 0, .int .u64 0, .int .u64 0, .int .u64 0, .int .u64 0], [(0, 1), (1, 1), (2, 1), (3, 1), (4, 1), (5, 1), (6, 1), (7, 1), (8, 1), (9, 1), (10, 1), (11, 1), (12, 1), (13, 1), (14, 1), (15, 1), (16, 1), (17, 1), (18, 1), (19, 1)])
 | _ => none
theorem bldT {t : TypeId} {z : List Value} {pl : List (Nat × Nat)} (h : bldTab t = some (z, pl)) : Bld Tryz.prog t z pl := by
 unfold bldTab at h
 split at h
 ·cases h; exact ⟨zeroT rfl, .inl ⟨_, Tryz.underlying23, by kernel_rfl⟩⟩
 ·cases h; exact ⟨zeroT rfl, .inl ⟨_, Tryz.underlying24, by kernel_rfl⟩⟩
 ·cases h; exact ⟨zeroT rfl, .inl ⟨_, Tryz.underlying37, by kernel_rfl⟩⟩
 ·cases h; exact ⟨zeroT rfl, .inl ⟨_, Tryz.underlying38, by kernel_rfl⟩⟩
 ·cases h; exact ⟨zeroT rfl, .inl ⟨_, Tryz.underlying46, by kernel_rfl⟩⟩
 ·cases h; exact ⟨zeroT rfl, .inl ⟨_, Tryz.underlying47, by kernel_rfl⟩⟩
 ·cases h; exact ⟨zeroT rfl, .inl ⟨_, Tryz.underlying53, by kernel_rfl⟩⟩
 ·cases h; exact ⟨zeroT rfl, .inl ⟨_, Tryz.underlying54, by kernel_rfl⟩⟩
 ·cases h; exact ⟨zeroT rfl, .inl ⟨_, Tryz.underlying55, by kernel_rfl⟩⟩
 ·cases h; exact ⟨zeroT rfl, .inl ⟨_, Tryz.underlying64, by kernel_rfl⟩⟩
 ·cases h; exact ⟨zeroT rfl, .inl ⟨_, Tryz.underlying65, by kernel_rfl⟩⟩
 ·cases h; exact ⟨zeroT rfl, .inl ⟨_, Tryz.underlying66, by kernel_rfl⟩⟩
 ·cases h; exact ⟨zeroT rfl, .inl ⟨_, Tryz.underlying67, by kernel_rfl⟩⟩
 ·cases h; exact ⟨zeroT rfl, .inl ⟨_, Tryz.underlying74, by kernel_rfl⟩⟩
 ·cases h; exact ⟨zeroT rfl, .inl ⟨_, Tryz.underlying75, by kernel_rfl⟩⟩
 ·cases h; exact ⟨zeroT rfl, .inl ⟨_, Tryz.underlying86, by kernel_rfl⟩⟩
 ·cases h; exact ⟨zeroT rfl, .inl ⟨_, Tryz.underlying87, by kernel_rfl⟩⟩
 ·cases h; exact ⟨zeroT rfl, .inl ⟨_, Tryz.underlying90, by kernel_rfl⟩⟩
 ·cases h; exact ⟨zeroT rfl, .inl ⟨_, Tryz.underlying91, by kernel_rfl⟩⟩
 ·cases h; exact ⟨zeroT rfl, .inl ⟨_, Tryz.underlying103, by kernel_rfl⟩⟩
 ·cases h; exact ⟨zeroT rfl, .inl ⟨_, Tryz.underlying104, by kernel_rfl⟩⟩
 ·cases h; exact ⟨zeroT rfl, .inl ⟨_, Tryz.underlying130, by kernel_rfl⟩⟩
 ·cases h; exact ⟨zeroT rfl, .inl ⟨_, Tryz.underlying131, by kernel_rfl⟩⟩
 ·cases h; exact ⟨zeroT rfl, .inl ⟨_, Tryz.underlying140, by kernel_rfl⟩⟩
 ·cases h; exact ⟨zeroT rfl, .inl ⟨_, Tryz.underlying141, by kernel_rfl⟩⟩
 ·cases h; exact ⟨zeroT rfl, .inr ⟨_, _, _, Tryz.underlying159, szT rfl, by decide⟩⟩
 ·cases h; exact ⟨zeroT rfl, .inl ⟨_, Tryz.underlying163, by kernel_rfl⟩⟩
 ·cases h; exact ⟨zeroT rfl, .inl ⟨_, Tryz.underlying164, by kernel_rfl⟩⟩
 ·cases h; exact ⟨zeroT rfl, .inr ⟨_, _, _, Tryz.underlying183, szT rfl, by decide⟩⟩
 ·cases h; exact ⟨zeroT rfl, .inr ⟨_, _, _, Tryz.underlying213, szT rfl, by decide⟩⟩
 ·cases h; exact ⟨zeroT rfl, .inr ⟨_, _, _, Tryz.underlying214, szT rfl, by decide⟩⟩
 ·cases h; exact ⟨zeroT rfl, .inr ⟨_, _, _, Tryz.underlying219, szT rfl, by decide⟩⟩
 ·cases h
def flatTab : TypeId → Option (List Nat)
 | 37 => some [0, 0]
 | 38 => some [0, 0]
 | 64 => some [1, 0, 0]
 | 65 => some [1, 0, 0]
 | 66 => some [0, 1, 0, 0, 0]
 | 67 => some [0, 1, 0, 0, 0]
 | _ => none
theorem flatT {t : TypeId} {ks : List Nat} (h : flatTab t = some ks) : Flat Tryz.prog t ks := by
 unfold flatTab at h
 split at h
 ·cases h; exact ⟨⟨_, Tryz.underlying37, ⟨by decide, rfl, ⟨_, Tryz.underlying27⟩, ⟨by decide, rfl, ⟨_, Tryz.underlying3⟩, trivial⟩⟩⟩, by kernel_rfl, by kernel_rfl⟩
 ·cases h; exact ⟨⟨_, Tryz.underlying38, ⟨by decide, rfl, ⟨_, Tryz.underlying27⟩, ⟨by decide, rfl, ⟨_, Tryz.underlying3⟩, trivial⟩⟩⟩, by kernel_rfl, by kernel_rfl⟩
 ·cases h; exact ⟨⟨_, Tryz.underlying64, ⟨by decide, rfl, Tryz.underlying9, ⟨by decide, rfl, ⟨_, Tryz.underlying3⟩, ⟨by decide, rfl, ⟨_, Tryz.underlying3⟩, trivial⟩⟩⟩⟩, by kernel_rfl, by kernel_rfl⟩
 ·cases h; exact ⟨⟨_, Tryz.underlying65, ⟨by decide, rfl, Tryz.underlying9, ⟨by decide, rfl, ⟨_, Tryz.underlying3⟩, ⟨by decide, rfl, ⟨_, Tryz.underlying3⟩, trivial⟩⟩⟩⟩, by kernel_rfl, by kernel_rfl⟩
 ·cases h; exact ⟨⟨_, Tryz.underlying66, ⟨by decide, rfl, ⟨_, Tryz.underlying3⟩, ⟨by decide, rfl, Tryz.underlying9, ⟨by decide, rfl, ⟨_, Tryz.underlying44⟩, ⟨by decide, rfl, ⟨_, Tryz.underlying3⟩, ⟨by decide, rfl, ⟨_, Tryz.underlying3⟩, trivial⟩⟩⟩⟩⟩⟩, by kernel_rfl, by kernel_rfl⟩
 ·cases h; exact ⟨⟨_, Tryz.underlying67, ⟨by decide, rfl, ⟨_, Tryz.underlying3⟩, ⟨by decide, rfl, Tryz.underlying9, ⟨by decide, rfl, ⟨_, Tryz.underlying44⟩, ⟨by decide, rfl, ⟨_, Tryz.underlying3⟩, ⟨by decide, rfl, ⟨_, Tryz.underlying3⟩, trivial⟩⟩⟩⟩⟩⟩, by kernel_rfl, by kernel_rfl⟩
 ·cases h
def boolTab : TypeId → Option Unit
 | 4 => some ()
 | _ => none
theorem boolT {t : TypeId} (h : boolTab t = some ()) : Tryz.prog.underlying t = some .bool := by
 unfold boolTab at h
 split at h
 ·exact Tryz.underlying4
 ·cases h
theorem mixed : Tryz.prog.follows .mixedOrders = true := by kernel_rfl
theorem has5 : Has Tryz.prog 5 := ⟨_, _, Tryz.func5, rfl, by kernel_rfl⟩
theorem has8 : Has Tryz.prog 8 := ⟨_, _, Tryz.func8, rfl, by kernel_rfl⟩
theorem has9 : Has Tryz.prog 9 := ⟨_, _, Tryz.func9, rfl, by kernel_rfl⟩
theorem has10 : Has Tryz.prog 10 := ⟨_, _, Tryz.func10, rfl, by kernel_rfl⟩
theorem has14 : Has Tryz.prog 14 := ⟨_, _, Tryz.func14, rfl, by kernel_rfl⟩
theorem has15 : Has Tryz.prog 15 := ⟨_, _, Tryz.func15, rfl, by kernel_rfl⟩
theorem has16 : Has Tryz.prog 16 := ⟨_, _, Tryz.func16, rfl, by kernel_rfl⟩
theorem has17 : Has Tryz.prog 17 := ⟨_, _, Tryz.func17, rfl, by kernel_rfl⟩
theorem has18 : Has Tryz.prog 18 := ⟨_, _, Tryz.func18, rfl, by kernel_rfl⟩
theorem has19 : Has Tryz.prog 19 := ⟨_, _, Tryz.func19, rfl, by kernel_rfl⟩
theorem has22 : Has Tryz.prog 22 := ⟨_, _, Tryz.func22, rfl, by kernel_rfl⟩
theorem has23 : Has Tryz.prog 23 := ⟨_, _, Tryz.func23, rfl, by kernel_rfl⟩
theorem has24 : Has Tryz.prog 24 := ⟨_, _, Tryz.func24, rfl, by kernel_rfl⟩
theorem has25 : Has Tryz.prog 25 := ⟨_, _, Tryz.func25, rfl, by kernel_rfl⟩
theorem has26 : Has Tryz.prog 26 := ⟨_, _, Tryz.func26, rfl, by kernel_rfl⟩
theorem has27 : Has Tryz.prog 27 := ⟨_, _, Tryz.func27, rfl, by kernel_rfl⟩
theorem has28 : Has Tryz.prog 28 := ⟨_, _, Tryz.func28, rfl, by kernel_rfl⟩
theorem has29 : Has Tryz.prog 29 := ⟨_, _, Tryz.func29, rfl, by kernel_rfl⟩
theorem has30 : Has Tryz.prog 30 := ⟨_, _, Tryz.func30, rfl, by kernel_rfl⟩
theorem has31 : Has Tryz.prog 31 := ⟨_, _, Tryz.func31, rfl, by kernel_rfl⟩
theorem has32 : Has Tryz.prog 32 := ⟨_, _, Tryz.func32, rfl, by kernel_rfl⟩
theorem has33 : Has Tryz.prog 33 := ⟨_, _, Tryz.func33, rfl, by kernel_rfl⟩
theorem has34 : Has Tryz.prog 34 := ⟨_, _, Tryz.func34, rfl, by kernel_rfl⟩
theorem has35 : Has Tryz.prog 35 := ⟨_, _, Tryz.func35, rfl, by kernel_rfl⟩
theorem has36 : Has Tryz.prog 36 := ⟨_, _, Tryz.func36, rfl, by kernel_rfl⟩
theorem has37 : Has Tryz.prog 37 := ⟨_, _, Tryz.func37, rfl, by kernel_rfl⟩
theorem has41 : Has Tryz.prog 41 := ⟨_, _, Tryz.func41, rfl, by kernel_rfl⟩
theorem has42 : Has Tryz.prog 42 := ⟨_, _, Tryz.func42, rfl, by kernel_rfl⟩
theorem has43 : Has Tryz.prog 43 := ⟨_, _, Tryz.func43, rfl, by kernel_rfl⟩
theorem has44 : Has Tryz.prog 44 := ⟨_, _, Tryz.func44, rfl, by kernel_rfl⟩
theorem has45 : Has Tryz.prog 45 := ⟨_, _, Tryz.func45, rfl, by kernel_rfl⟩
theorem has46 : Has Tryz.prog 46 := ⟨_, _, Tryz.func46, rfl, by kernel_rfl⟩
theorem has47 : Has Tryz.prog 47 := ⟨_, _, Tryz.func47, rfl, by kernel_rfl⟩
theorem has48 : Has Tryz.prog 48 := ⟨_, _, Tryz.func48, rfl, by kernel_rfl⟩
theorem has49 : Has Tryz.prog 49 := ⟨_, _, Tryz.func49, rfl, by kernel_rfl⟩
theorem has50 : Has Tryz.prog 50 := ⟨_, _, Tryz.func50, rfl, by kernel_rfl⟩
theorem has51 : Has Tryz.prog 51 := ⟨_, _, Tryz.func51, rfl, by kernel_rfl⟩
theorem has52 : Has Tryz.prog 52 := ⟨_, _, Tryz.func52, rfl, by kernel_rfl⟩
theorem has53 : Has Tryz.prog 53 := ⟨_, _, Tryz.func53, rfl, by kernel_rfl⟩
theorem has54 : Has Tryz.prog 54 := ⟨_, _, Tryz.func54, rfl, by kernel_rfl⟩
theorem has55 : Has Tryz.prog 55 := ⟨_, _, Tryz.func55, rfl, by kernel_rfl⟩
theorem has56 : Has Tryz.prog 56 := ⟨_, _, Tryz.func56, rfl, by kernel_rfl⟩
theorem has57 : Has Tryz.prog 57 := ⟨_, _, Tryz.func57, rfl, by kernel_rfl⟩
theorem has58 : Has Tryz.prog 58 := ⟨_, _, Tryz.func58, rfl, by kernel_rfl⟩
theorem has59 : Has Tryz.prog 59 := ⟨_, _, Tryz.func59, rfl, by kernel_rfl⟩
theorem has60 : Has Tryz.prog 60 := ⟨_, _, Tryz.func60, rfl, by kernel_rfl⟩
theorem has61 : Has Tryz.prog 61 := ⟨_, _, Tryz.func61, rfl, by kernel_rfl⟩
theorem has62 : Has Tryz.prog 62 := ⟨_, _, Tryz.func62, rfl, by kernel_rfl⟩
theorem has63 : Has Tryz.prog 63 := ⟨_, _, Tryz.func63, rfl, by kernel_rfl⟩
theorem has64 : Has Tryz.prog 64 := ⟨_, _, Tryz.func64, rfl, by kernel_rfl⟩
theorem has65 : Has Tryz.prog 65 := ⟨_, _, Tryz.func65, rfl, by kernel_rfl⟩
theorem has66 : Has Tryz.prog 66 := ⟨_, _, Tryz.func66, rfl, by kernel_rfl⟩
theorem has67 : Has Tryz.prog 67 := ⟨_, _, Tryz.func67, rfl, by kernel_rfl⟩
theorem has68 : Has Tryz.prog 68 := ⟨_, _, Tryz.func68, rfl, by kernel_rfl⟩
theorem has69 : Has Tryz.prog 69 := ⟨_, _, Tryz.func69, rfl, by kernel_rfl⟩
theorem has70 : Has Tryz.prog 70 := ⟨_, _, Tryz.func70, rfl, by kernel_rfl⟩
theorem has71 : Has Tryz.prog 71 := ⟨_, _, Tryz.func71, rfl, by kernel_rfl⟩
theorem has72 : Has Tryz.prog 72 := ⟨_, _, Tryz.func72, rfl, by kernel_rfl⟩
theorem has73 : Has Tryz.prog 73 := ⟨_, _, Tryz.func73, rfl, by kernel_rfl⟩
theorem has74 : Has Tryz.prog 74 := ⟨_, _, Tryz.func74, rfl, by kernel_rfl⟩
theorem has84 : Has Tryz.prog 84 := ⟨_, _, Tryz.func84, rfl, by kernel_rfl⟩
theorem has85 : Has Tryz.prog 85 := ⟨_, _, Tryz.func85, rfl, by kernel_rfl⟩
theorem has86 : Has Tryz.prog 86 := ⟨_, _, Tryz.func86, rfl, by kernel_rfl⟩
theorem has87 : Has Tryz.prog 87 := ⟨_, _, Tryz.func87, rfl, by kernel_rfl⟩
theorem has90 : Has Tryz.prog 90 := ⟨_, _, Tryz.func90, rfl, by kernel_rfl⟩
theorem has91 : Has Tryz.prog 91 := ⟨_, _, Tryz.func91, rfl, by kernel_rfl⟩
theorem has92 : Has Tryz.prog 92 := ⟨_, _, Tryz.func92, rfl, by kernel_rfl⟩
theorem has93 : Has Tryz.prog 93 := ⟨_, _, Tryz.func93, rfl, by kernel_rfl⟩
theorem has94 : Has Tryz.prog 94 := ⟨_, _, Tryz.func94, rfl, by kernel_rfl⟩
theorem has95 : Has Tryz.prog 95 := ⟨_, _, Tryz.func95, rfl, by kernel_rfl⟩
theorem has96 : Has Tryz.prog 96 := ⟨_, _, Tryz.func96, rfl, by kernel_rfl⟩
theorem has97 : Has Tryz.prog 97 := ⟨_, _, Tryz.func97, rfl, by kernel_rfl⟩
theorem has98 : Has Tryz.prog 98 := ⟨_, _, Tryz.func98, rfl, by kernel_rfl⟩
theorem has99 : Has Tryz.prog 99 := ⟨_, _, Tryz.func99, rfl, by kernel_rfl⟩
theorem has100 : Has Tryz.prog 100 := ⟨_, _, Tryz.func100, rfl, by kernel_rfl⟩
theorem has101 : Has Tryz.prog 101 := ⟨_, _, Tryz.func101, rfl, by kernel_rfl⟩
theorem has102 : Has Tryz.prog 102 := ⟨_, _, Tryz.func102, rfl, by kernel_rfl⟩
theorem has103 : Has Tryz.prog 103 := ⟨_, _, Tryz.func103, rfl, by kernel_rfl⟩
theorem has104 : Has Tryz.prog 104 := ⟨_, _, Tryz.func104, rfl, by kernel_rfl⟩
theorem has105 : Has Tryz.prog 105 := ⟨_, _, Tryz.func105, rfl, by kernel_rfl⟩
theorem has106 : Has Tryz.prog 106 := ⟨_, _, Tryz.func106, rfl, by kernel_rfl⟩
theorem has107 : Has Tryz.prog 107 := ⟨_, _, Tryz.func107, rfl, by kernel_rfl⟩
theorem has108 : Has Tryz.prog 108 := ⟨_, _, Tryz.func108, rfl, by kernel_rfl⟩
theorem has109 : Has Tryz.prog 109 := ⟨_, _, Tryz.func109, rfl, by kernel_rfl⟩
theorem has110 : Has Tryz.prog 110 := ⟨_, _, Tryz.func110, rfl, by kernel_rfl⟩
theorem has111 : Has Tryz.prog 111 := ⟨_, _, Tryz.func111, rfl, by kernel_rfl⟩
theorem has128 : Has Tryz.prog 128 := ⟨_, _, Tryz.func128, rfl, by kernel_rfl⟩
theorem has129 : Has Tryz.prog 129 := ⟨_, _, Tryz.func129, rfl, by kernel_rfl⟩
theorem has130 : Has Tryz.prog 130 := ⟨_, _, Tryz.func130, rfl, by kernel_rfl⟩
theorem has131 : Has Tryz.prog 131 := ⟨_, _, Tryz.func131, rfl, by kernel_rfl⟩
theorem has132 : Has Tryz.prog 132 := ⟨_, _, Tryz.func132, rfl, by kernel_rfl⟩
theorem has133 : Has Tryz.prog 133 := ⟨_, _, Tryz.func133, rfl, by kernel_rfl⟩
theorem has134 : Has Tryz.prog 134 := ⟨_, _, Tryz.func134, rfl, by kernel_rfl⟩
theorem has135 : Has Tryz.prog 135 := ⟨_, _, Tryz.func135, rfl, by kernel_rfl⟩
theorem has136 : Has Tryz.prog 136 := ⟨_, _, Tryz.func136, rfl, by kernel_rfl⟩
theorem has139 : Has Tryz.prog 139 := ⟨_, _, Tryz.func139, rfl, by kernel_rfl⟩
theorem has140 : Has Tryz.prog 140 := ⟨_, _, Tryz.func140, rfl, by kernel_rfl⟩
theorem has141 : Has Tryz.prog 141 := ⟨_, _, Tryz.func141, rfl, by kernel_rfl⟩
theorem has142 : Has Tryz.prog 142 := ⟨_, _, Tryz.func142, rfl, by kernel_rfl⟩
theorem has144 : Has Tryz.prog 144 := ⟨_, _, Tryz.func144, rfl, by kernel_rfl⟩
theorem has159 : Has Tryz.prog 159 := ⟨_, _, Tryz.func159, rfl, by kernel_rfl⟩
theorem has160 : Has Tryz.prog 160 := ⟨_, _, Tryz.func160, rfl, by kernel_rfl⟩
theorem has161 : Has Tryz.prog 161 := ⟨_, _, Tryz.func161, rfl, by kernel_rfl⟩
theorem has162 : Has Tryz.prog 162 := ⟨_, _, Tryz.func162, rfl, by kernel_rfl⟩
theorem has163 : Has Tryz.prog 163 := ⟨_, _, Tryz.func163, rfl, by kernel_rfl⟩
theorem has164 : Has Tryz.prog 164 := ⟨_, _, Tryz.func164, rfl, by kernel_rfl⟩
theorem has179 : Has Tryz.prog 179 := ⟨_, _, Tryz.func179, rfl, by kernel_rfl⟩
theorem has180 : Has Tryz.prog 180 := ⟨_, _, Tryz.func180, rfl, by kernel_rfl⟩
theorem has181 : Has Tryz.prog 181 := ⟨_, _, Tryz.func181, rfl, by kernel_rfl⟩
theorem has182 : Has Tryz.prog 182 := ⟨_, _, Tryz.func182, rfl, by kernel_rfl⟩
theorem has183 : Has Tryz.prog 183 := ⟨_, _, Tryz.func183, rfl, by kernel_rfl⟩
theorem has196 : Has Tryz.prog 196 := ⟨_, _, Tryz.func196, rfl, by kernel_rfl⟩
theorem has197 : Has Tryz.prog 197 := ⟨_, _, Tryz.func197, rfl, by kernel_rfl⟩
theorem has208 : Has Tryz.prog 208 := ⟨_, _, Tryz.func208, rfl, by kernel_rfl⟩
end Go.Proofs.YtbinaeemcidicaaGreatDoor
