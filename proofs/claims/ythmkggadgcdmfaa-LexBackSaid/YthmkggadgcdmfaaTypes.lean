import Derived.Test.YthmkggadgcdmfaaProg
import Derived.Test.YthmkggadgcdmfaaEng
/- the types' facts, printed by a program of mine (gen.py) off the translation -/
namespace Go.Proofs.Ythmkggadgcdmfaa
open Go.PB

def szTab : TypeId → Option Nat
  | 2 => some 1
  | 3 => some 1
  | 4 => some 1
  | 5 => some 1
  | 9 => some 1
  | 12 => some 1
  | 21 => some 1
  | 24 => some 1
  | 25 => some 1
  | 26 => some 2
  | 27 => some 2
  | 31 => some 1
  | 32 => some 5
  | 33 => some 5
  | 35 => some 1
  | 38 => some 1
  | 39 => some 6
  | 48 => some 1
  | 49 => some 3
  | 50 => some 3
  | 54 => some 1
  | 56 => some 2
  | 58 => some 1
  | 68 => some 13
  | 75 => some 1
  | 87 => some 1
  | _ => none

theorem szT {t : TypeId} {n : Nat} (h : szTab t = some n) : Sz Try.prog t n := by
  unfold szTab at h
  split at h <;> first | (cases h; unfold Sz; kernel_rfl) | cases h

def byTab : TypeId → Option Nat
  | 2 => some 8
  | 3 => some 8
  | 4 => some 1
  | 5 => some 1
  | 9 => some 16
  | 12 => some 8
  | 21 => some 4
  | 24 => some 24
  | 25 => some 8
  | 26 => some 16
  | 27 => some 16
  | 31 => some 4
  | 32 => some 48
  | 33 => some 48
  | 35 => some 24
  | 38 => some 8
  | 39 => some 6
  | 48 => some 8
  | 49 => some 32
  | 50 => some 32
  | 54 => some 8
  | 56 => some 32
  | 58 => some 16
  | 68 => some 208
  | 75 => some 8
  | 87 => some 4
  | _ => none

theorem byT {t : TypeId} {n : Nat} (h : byTab t = some n) : By Try.prog t n := by
  unfold byTab at h
  split at h <;> first | (cases h; unfold By; kernel_rfl) | cases h

def agTab : TypeId → Option Bool
  | 2 => some false
  | 3 => some false
  | 4 => some false
  | 5 => some false
  | 9 => some false
  | 12 => some false
  | 21 => some false
  | 24 => some false
  | 25 => some false
  | 26 => some true
  | 27 => some true
  | 31 => some false
  | 32 => some true
  | 33 => some true
  | 35 => some false
  | 38 => some false
  | 39 => some true
  | 48 => some false
  | 49 => some true
  | 50 => some true
  | 54 => some false
  | 56 => some true
  | 58 => some false
  | 68 => some true
  | 75 => some false
  | 87 => some false
  | _ => none

theorem agT {t : TypeId} {b : Bool} (h : agTab t = some b) : Ag Try.prog t b := by
  unfold agTab at h
  split at h
  · cases h; exact ⟨_, Try.underlying2, rfl⟩
  · cases h; exact ⟨_, Try.underlying3, rfl⟩
  · cases h; exact ⟨_, Try.underlying4, rfl⟩
  · cases h; exact ⟨_, Try.underlying5, rfl⟩
  · cases h; exact ⟨_, Try.underlying9, rfl⟩
  · cases h; exact ⟨_, Try.underlying12, rfl⟩
  · cases h; exact ⟨_, Try.underlying21, rfl⟩
  · cases h; exact ⟨_, Try.underlying24, rfl⟩
  · cases h; exact ⟨_, Try.underlying25, rfl⟩
  · cases h; exact ⟨_, Try.underlying26, rfl⟩
  · cases h; exact ⟨_, Try.underlying27, rfl⟩
  · cases h; exact ⟨_, Try.underlying31, rfl⟩
  · cases h; exact ⟨_, Try.underlying32, rfl⟩
  · cases h; exact ⟨_, Try.underlying33, rfl⟩
  · cases h; exact ⟨_, Try.underlying35, rfl⟩
  · cases h; exact ⟨_, Try.underlying38, rfl⟩
  · cases h; exact ⟨_, Try.underlying39, rfl⟩
  · cases h; exact ⟨_, Try.underlying48, rfl⟩
  · cases h; exact ⟨_, Try.underlying49, rfl⟩
  · cases h; exact ⟨_, Try.underlying50, rfl⟩
  · cases h; exact ⟨_, Try.underlying54, rfl⟩
  · cases h; exact ⟨_, Try.underlying56, rfl⟩
  · cases h; exact ⟨_, Try.underlying58, rfl⟩
  · cases h; exact ⟨_, Try.underlying68, rfl⟩
  · cases h; exact ⟨_, Try.underlying75, rfl⟩
  · cases h; exact ⟨_, Try.underlying87, rfl⟩
  · cases h

def zeroTab : TypeId → Option (List Value)
  | 2 => some [.int .i64 0]
  | 3 => some [.int .i64 0]
  | 4 => some [.bool false]
  | 5 => some [.int .u8 0]
  | 9 => some [.string ⟨[].toArray⟩]
  | 12 => some [.int .u64 0]
  | 21 => some [.int .i32 0]
  | 24 => some [.slice none 0 0]
  | 25 => some [.int .i64 0]
  | 26 => some [.int .i64 0, .int .i64 0]
  | 27 => some [.int .i64 0, .int .i64 0]
  | 31 => some [.int .i32 0]
  | 32 => some [.int .i64 0, .string ⟨[].toArray⟩, .int .i32 0, .int .i64 0, .int .i64 0]
  | 33 => some [.int .i64 0, .string ⟨[].toArray⟩, .int .i32 0, .int .i64 0, .int .i64 0]
  | 35 => some [.slice none 0 0]
  | 38 => some [.int .u64 0]
  | 39 => some [.int .u8 0, .int .u8 0, .int .u8 0, .int .u8 0, .int .u8 0, .int .u8 0]
  | 48 => some [.pointer none]
  | 49 => some [.string ⟨[].toArray⟩, .int .i64 0, .int .i64 0]
  | 50 => some [.string ⟨[].toArray⟩, .int .i64 0, .int .i64 0]
  | 54 => some [.pointer none]
  | 56 => some [.pointer none, .slice none 0 0]
  | 58 => some [.nilIface]
  | 68 => some [.string ⟨[].toArray⟩, .string ⟨[].toArray⟩, .string ⟨[].toArray⟩, .string ⟨[].toArray⟩, .string ⟨[].toArray⟩, .string ⟨[].toArray⟩, .string ⟨[].toArray⟩, .string ⟨[].toArray⟩, .string ⟨[].toArray⟩, .string ⟨[].toArray⟩, .string ⟨[].toArray⟩, .string ⟨[].toArray⟩, .string ⟨[].toArray⟩]
  | 75 => some [.pointer none]
  | 87 => some [.int .u32 0]
  | _ => none

theorem zero_of {t : TypeId} {z : Value} {l : List Value} (h : (Try.prog.info? t).map (·.zero) = some (some z)) (hl : z.cells = l.toArray) : Zero Try.prog t l := by
  obtain ⟨i, hi, hz⟩ := Option.map_eq_some_iff.1 h
  exact ⟨i, z, hi, hz, hl⟩

theorem zeroT {t : TypeId} {l : List Value} (h : zeroTab t = some l) : Zero Try.prog t l := by
  unfold zeroTab at h
  split at h
  · cases h; exact zero_of (z := (.int .i64 0)) (by kernel_rfl) rfl
  · cases h; exact zero_of (z := (.int .i64 0)) (by kernel_rfl) rfl
  · cases h; exact zero_of (z := (.bool false)) (by kernel_rfl) rfl
  · cases h; exact zero_of (z := (.int .u8 0)) (by kernel_rfl) rfl
  · cases h; exact zero_of (z := (.string ⟨[].toArray⟩)) (by kernel_rfl) rfl
  · cases h; exact zero_of (z := (.int .u64 0)) (by kernel_rfl) rfl
  · cases h; exact zero_of (z := (.int .i32 0)) (by kernel_rfl) rfl
  · cases h; exact zero_of (z := (.slice none 0 0)) (by kernel_rfl) rfl
  · cases h; exact zero_of (z := (.int .i64 0)) (by kernel_rfl) rfl
  · cases h; exact zero_of (z := (.agg #[.int .i64 0, .int .i64 0])) (by kernel_rfl) rfl
  · cases h; exact zero_of (z := (.agg #[.int .i64 0, .int .i64 0])) (by kernel_rfl) rfl
  · cases h; exact zero_of (z := (.int .i32 0)) (by kernel_rfl) rfl
  · cases h; exact zero_of (z := (.agg #[.int .i64 0, .string ⟨[].toArray⟩, .int .i32 0, .int .i64 0, .int .i64 0])) (by kernel_rfl) rfl
  · cases h; exact zero_of (z := (.agg #[.int .i64 0, .string ⟨[].toArray⟩, .int .i32 0, .int .i64 0, .int .i64 0])) (by kernel_rfl) rfl
  · cases h; exact zero_of (z := (.slice none 0 0)) (by kernel_rfl) rfl
  · cases h; exact zero_of (z := (.int .u64 0)) (by kernel_rfl) rfl
  · cases h; exact zero_of (z := (.agg #[.int .u8 0, .int .u8 0, .int .u8 0, .int .u8 0, .int .u8 0, .int .u8 0])) (by kernel_rfl) rfl
  · cases h; exact zero_of (z := (.pointer none)) (by kernel_rfl) rfl
  · cases h; exact zero_of (z := (.agg #[.string ⟨[].toArray⟩, .int .i64 0, .int .i64 0])) (by kernel_rfl) rfl
  · cases h; exact zero_of (z := (.agg #[.string ⟨[].toArray⟩, .int .i64 0, .int .i64 0])) (by kernel_rfl) rfl
  · cases h; exact zero_of (z := (.pointer none)) (by kernel_rfl) rfl
  · cases h; exact zero_of (z := (.agg #[.pointer none, .slice none 0 0])) (by kernel_rfl) rfl
  · cases h; exact zero_of (z := (.nilIface)) (by kernel_rfl) rfl
  · cases h; exact zero_of (z := (.agg #[.string ⟨[].toArray⟩, .string ⟨[].toArray⟩, .string ⟨[].toArray⟩, .string ⟨[].toArray⟩, .string ⟨[].toArray⟩, .string ⟨[].toArray⟩, .string ⟨[].toArray⟩, .string ⟨[].toArray⟩, .string ⟨[].toArray⟩, .string ⟨[].toArray⟩, .string ⟨[].toArray⟩, .string ⟨[].toArray⟩, .string ⟨[].toArray⟩])) (by kernel_rfl) rfl
  · cases h; exact zero_of (z := (.pointer none)) (by kernel_rfl) rfl
  · cases h; exact zero_of (z := (.int .u32 0)) (by kernel_rfl) rfl
  · cases h

def slTab : TypeId → Option TypeId
  | 24 => some 33
  | 35 => some 5
  | _ => none

theorem slT {t e : TypeId} (h : slTab t = some e) : Sl Try.prog t e := by
  unfold slTab at h
  split at h
  · cases h; exact Try.underlying24
  · cases h; exact Try.underlying35
  · cases h

def intTab : TypeId → Option IntKind
  | 2 => some IntKind.i64
  | 3 => some IntKind.i64
  | 5 => some IntKind.u8
  | 12 => some IntKind.u64
  | 21 => some IntKind.i32
  | 25 => some IntKind.i64
  | 31 => some IntKind.i32
  | 38 => some IntKind.u64
  | 87 => some IntKind.u32
  | _ => none

theorem intT {t : TypeId} {k : IntKind} (h : intTab t = some k) : Try.prog.underlying t = some (.int k) := by
  unfold intTab at h
  split at h
  · cases h; exact Try.underlying2
  · cases h; exact Try.underlying3
  · cases h; exact Try.underlying5
  · cases h; exact Try.underlying12
  · cases h; exact Try.underlying21
  · cases h; exact Try.underlying25
  · cases h; exact Try.underlying31
  · cases h; exact Try.underlying38
  · cases h; exact Try.underlying87
  · cases h

def strTab : TypeId → Option Unit
  | 9 => some ()
  | _ => none

theorem strT {t : TypeId} (h : strTab t = some ()) : Try.prog.underlying t = some .string := by
  unfold strTab at h
  split at h
  · exact Try.underlying9
  · cases h

theorem dT {t : TypeId} {k : IntKind} (h : intTab t = some k) : ∃ d, Try.prog.underlying t = some d := ⟨_, intT h⟩

def fldTab : TypeId → Nat → Option (Nat × TypeId)
  | 26, 0 => some (0, 25)
  | 26, 1 => some (1, 3)
  | 27, 0 => some (0, 25)
  | 27, 1 => some (1, 3)
  | 32, 0 => some (0, 3)
  | 32, 1 => some (1, 9)
  | 32, 2 => some (2, 31)
  | 32, 3 => some (3, 3)
  | 32, 4 => some (4, 3)
  | 33, 0 => some (0, 3)
  | 33, 1 => some (1, 9)
  | 33, 2 => some (2, 31)
  | 33, 3 => some (3, 3)
  | 33, 4 => some (4, 3)
  | 49, 0 => some (0, 9)
  | 49, 1 => some (1, 3)
  | 49, 2 => some (2, 3)
  | 50, 0 => some (0, 9)
  | 50, 1 => some (1, 3)
  | 50, 2 => some (2, 3)
  | 56, 0 => some (0, 54)
  | 56, 1 => some (1, 35)
  | _, _ => none

theorem fldT {t f off : Nat} {ft : TypeId} (h : fldTab t f = some (off, ft)) : Fld Try.prog t f off ft := by
  unfold fldTab at h
  split at h
  · cases h; exact ⟨_, _, Try.underlying26, rfl, rfl, rfl, 0, szT rfl⟩
  · cases h; exact ⟨_, _, Try.underlying26, rfl, rfl, rfl, 0, szT rfl⟩
  · cases h; exact ⟨_, _, Try.underlying27, rfl, rfl, rfl, 0, szT rfl⟩
  · cases h; exact ⟨_, _, Try.underlying27, rfl, rfl, rfl, 0, szT rfl⟩
  · cases h; exact ⟨_, _, Try.underlying32, rfl, rfl, rfl, 0, szT rfl⟩
  · cases h; exact ⟨_, _, Try.underlying32, rfl, rfl, rfl, 0, szT rfl⟩
  · cases h; exact ⟨_, _, Try.underlying32, rfl, rfl, rfl, 0, szT rfl⟩
  · cases h; exact ⟨_, _, Try.underlying32, rfl, rfl, rfl, 0, szT rfl⟩
  · cases h; exact ⟨_, _, Try.underlying32, rfl, rfl, rfl, 0, szT rfl⟩
  · cases h; exact ⟨_, _, Try.underlying33, rfl, rfl, rfl, 0, szT rfl⟩
  · cases h; exact ⟨_, _, Try.underlying33, rfl, rfl, rfl, 0, szT rfl⟩
  · cases h; exact ⟨_, _, Try.underlying33, rfl, rfl, rfl, 0, szT rfl⟩
  · cases h; exact ⟨_, _, Try.underlying33, rfl, rfl, rfl, 0, szT rfl⟩
  · cases h; exact ⟨_, _, Try.underlying33, rfl, rfl, rfl, 0, szT rfl⟩
  · cases h; exact ⟨_, _, Try.underlying49, rfl, rfl, rfl, 0, szT rfl⟩
  · cases h; exact ⟨_, _, Try.underlying49, rfl, rfl, rfl, 0, szT rfl⟩
  · cases h; exact ⟨_, _, Try.underlying49, rfl, rfl, rfl, 0, szT rfl⟩
  · cases h; exact ⟨_, _, Try.underlying50, rfl, rfl, rfl, 0, szT rfl⟩
  · cases h; exact ⟨_, _, Try.underlying50, rfl, rfl, rfl, 0, szT rfl⟩
  · cases h; exact ⟨_, _, Try.underlying50, rfl, rfl, rfl, 0, szT rfl⟩
  · cases h; exact ⟨_, _, Try.underlying56, rfl, rfl, rfl, 0, szT rfl⟩
  · cases h; exact ⟨_, _, Try.underlying56, rfl, rfl, rfl, 0, szT rfl⟩
  · cases h

def bldTab : TypeId → Option (List Value × List (Nat × Nat))
  | 26 => some ([.int .i64 0, .int .i64 0], [(0, 1), (1, 1)])
  | 27 => some ([.int .i64 0, .int .i64 0], [(0, 1), (1, 1)])
  | 32 => some ([.int .i64 0, .string ⟨[].toArray⟩, .int .i32 0, .int .i64 0, .int .i64 0], [(0, 1), (1, 1), (2, 1), (3, 1), (4, 1)])
  | 33 => some ([.int .i64 0, .string ⟨[].toArray⟩, .int .i32 0, .int .i64 0, .int .i64 0], [(0, 1), (1, 1), (2, 1), (3, 1), (4, 1)])
  | 39 => some ([.int .u8 0, .int .u8 0, .int .u8 0, .int .u8 0, .int .u8 0, .int .u8 0], [(0, 1), (1, 1), (2, 1), (3, 1), (4, 1), (5, 1)])
  | 49 => some ([.string ⟨[].toArray⟩, .int .i64 0, .int .i64 0], [(0, 1), (1, 1), (2, 1)])
  | 50 => some ([.string ⟨[].toArray⟩, .int .i64 0, .int .i64 0], [(0, 1), (1, 1), (2, 1)])
  | 56 => some ([.pointer none, .slice none 0 0], [(0, 1), (1, 1)])
  | 68 => some ([.string ⟨[].toArray⟩, .string ⟨[].toArray⟩, .string ⟨[].toArray⟩, .string ⟨[].toArray⟩, .string ⟨[].toArray⟩, .string ⟨[].toArray⟩, .string ⟨[].toArray⟩, .string ⟨[].toArray⟩, .string ⟨[].toArray⟩, .string ⟨[].toArray⟩, .string ⟨[].toArray⟩, .string ⟨[].toArray⟩, .string ⟨[].toArray⟩], [(0, 1), (1, 1), (2, 1), (3, 1), (4, 1), (5, 1), (6, 1), (7, 1), (8, 1), (9, 1), (10, 1), (11, 1), (12, 1)])
  | _ => none

theorem bldT {t : TypeId} {z : List Value} {pl : List (Nat × Nat)} (h : bldTab t = some (z, pl)) : Bld Try.prog t z pl := by
  unfold bldTab at h
  split at h
  · cases h; exact ⟨zeroT rfl, .inl ⟨_, Try.underlying26, by kernel_rfl⟩⟩
  · cases h; exact ⟨zeroT rfl, .inl ⟨_, Try.underlying27, by kernel_rfl⟩⟩
  · cases h; exact ⟨zeroT rfl, .inl ⟨_, Try.underlying32, by kernel_rfl⟩⟩
  · cases h; exact ⟨zeroT rfl, .inl ⟨_, Try.underlying33, by kernel_rfl⟩⟩
  · cases h; exact ⟨zeroT rfl, .inr ⟨_, _, _, Try.underlying39, szT rfl, by decide⟩⟩
  · cases h; exact ⟨zeroT rfl, .inl ⟨_, Try.underlying49, by kernel_rfl⟩⟩
  · cases h; exact ⟨zeroT rfl, .inl ⟨_, Try.underlying50, by kernel_rfl⟩⟩
  · cases h; exact ⟨zeroT rfl, .inl ⟨_, Try.underlying56, by kernel_rfl⟩⟩
  · cases h; exact ⟨zeroT rfl, .inr ⟨_, _, _, Try.underlying68, szT rfl, by decide⟩⟩
  · cases h

def mpTab : TypeId → Option (TypeId × TypeId)
  | _ => none

theorem mpT {t k e : TypeId} (h : mpTab t = some (k, e)) : Mp Try.prog t k e := by
  unfold mpTab at h
  split at h
  · cases h

def zeroVTab : TypeId → Option Value
  | 2 => some (.int .i64 0)
  | 3 => some (.int .i64 0)
  | 4 => some (.bool false)
  | 5 => some (.int .u8 0)
  | 9 => some (.string ⟨[].toArray⟩)
  | 12 => some (.int .u64 0)
  | 21 => some (.int .i32 0)
  | 24 => some (.slice none 0 0)
  | 25 => some (.int .i64 0)
  | 26 => some (.agg #[.int .i64 0, .int .i64 0])
  | 27 => some (.agg #[.int .i64 0, .int .i64 0])
  | 31 => some (.int .i32 0)
  | 32 => some (.agg #[.int .i64 0, .string ⟨[].toArray⟩, .int .i32 0, .int .i64 0, .int .i64 0])
  | 33 => some (.agg #[.int .i64 0, .string ⟨[].toArray⟩, .int .i32 0, .int .i64 0, .int .i64 0])
  | 35 => some (.slice none 0 0)
  | 38 => some (.int .u64 0)
  | 39 => some (.agg #[.int .u8 0, .int .u8 0, .int .u8 0, .int .u8 0, .int .u8 0, .int .u8 0])
  | 48 => some (.pointer none)
  | 49 => some (.agg #[.string ⟨[].toArray⟩, .int .i64 0, .int .i64 0])
  | 50 => some (.agg #[.string ⟨[].toArray⟩, .int .i64 0, .int .i64 0])
  | 54 => some (.pointer none)
  | 56 => some (.agg #[.pointer none, .slice none 0 0])
  | 58 => some (.nilIface)
  | 68 => some (.agg #[.string ⟨[].toArray⟩, .string ⟨[].toArray⟩, .string ⟨[].toArray⟩, .string ⟨[].toArray⟩, .string ⟨[].toArray⟩, .string ⟨[].toArray⟩, .string ⟨[].toArray⟩, .string ⟨[].toArray⟩, .string ⟨[].toArray⟩, .string ⟨[].toArray⟩, .string ⟨[].toArray⟩, .string ⟨[].toArray⟩, .string ⟨[].toArray⟩])
  | 75 => some (.pointer none)
  | 87 => some (.int .u32 0)
  | _ => none

theorem zeroVT {t : TypeId} {v : Value} (h : zeroVTab t = some v) : ZeroV Try.prog t v := by
  unfold zeroVTab at h
  split at h <;> first | (cases h; unfold ZeroV; kernel_rfl) | cases h

def flatTab : TypeId → Option (List Nat)
  | 26 => some [0, 0]
  | 27 => some [0, 0]
  | 32 => some [0, 1, 0, 0, 0]
  | 33 => some [0, 1, 0, 0, 0]
  | 49 => some [1, 0, 0]
  | 50 => some [1, 0, 0]
  | _ => none

theorem flatT {t : TypeId} {ks : List Nat} (h : flatTab t = some ks) : Flat Try.prog t ks := by
  unfold flatTab at h
  split at h
  · cases h; exact ⟨⟨_, Try.underlying26, ⟨by decide, rfl, ⟨_, Try.underlying25⟩, ⟨by decide, rfl, ⟨_, Try.underlying3⟩, trivial⟩⟩⟩, by kernel_rfl, by kernel_rfl⟩
  · cases h; exact ⟨⟨_, Try.underlying27, ⟨by decide, rfl, ⟨_, Try.underlying25⟩, ⟨by decide, rfl, ⟨_, Try.underlying3⟩, trivial⟩⟩⟩, by kernel_rfl, by kernel_rfl⟩
  · cases h; exact ⟨⟨_, Try.underlying32, ⟨by decide, rfl, ⟨_, Try.underlying3⟩, ⟨by decide, rfl, Try.underlying9, ⟨by decide, rfl, ⟨_, Try.underlying31⟩, ⟨by decide, rfl, ⟨_, Try.underlying3⟩, ⟨by decide, rfl, ⟨_, Try.underlying3⟩, trivial⟩⟩⟩⟩⟩⟩, by kernel_rfl, by kernel_rfl⟩
  · cases h; exact ⟨⟨_, Try.underlying33, ⟨by decide, rfl, ⟨_, Try.underlying3⟩, ⟨by decide, rfl, Try.underlying9, ⟨by decide, rfl, ⟨_, Try.underlying31⟩, ⟨by decide, rfl, ⟨_, Try.underlying3⟩, ⟨by decide, rfl, ⟨_, Try.underlying3⟩, trivial⟩⟩⟩⟩⟩⟩, by kernel_rfl, by kernel_rfl⟩
  · cases h; exact ⟨⟨_, Try.underlying49, ⟨by decide, rfl, Try.underlying9, ⟨by decide, rfl, ⟨_, Try.underlying3⟩, ⟨by decide, rfl, ⟨_, Try.underlying3⟩, trivial⟩⟩⟩⟩, by kernel_rfl, by kernel_rfl⟩
  · cases h; exact ⟨⟨_, Try.underlying50, ⟨by decide, rfl, Try.underlying9, ⟨by decide, rfl, ⟨_, Try.underlying3⟩, ⟨by decide, rfl, ⟨_, Try.underlying3⟩, trivial⟩⟩⟩⟩, by kernel_rfl, by kernel_rfl⟩
  · cases h

def arrTab : TypeId → Option (Nat × TypeId)
  | 39 => some (6, 5)
  | 68 => some (13, 9)
  | _ => none

theorem arrT {t m e : Nat} (h : arrTab t = some (m, e)) : Try.prog.underlying t = some (.array m e) := by
  unfold arrTab at h
  split at h
  · cases h; exact Try.underlying39
  · cases h; exact Try.underlying68
  · cases h

def boolTab : TypeId → Option Unit
  | 4 => some ()
  | _ => none

theorem boolT {t : TypeId} (h : boolTab t = some ()) : Try.prog.underlying t = some .bool := by
  unfold boolTab at h
  split at h
  · exact Try.underlying4
  · cases h

theorem mixed : Try.prog.follows .mixedOrders = true := by kernel_rfl

theorem has3 : Has Try.prog 3 := ⟨_, _, Try.func3, rfl, by kernel_rfl⟩
theorem has4 : Has Try.prog 4 := ⟨_, _, Try.func4, rfl, by kernel_rfl⟩
theorem has5 : Has Try.prog 5 := ⟨_, _, Try.func5, rfl, by kernel_rfl⟩
theorem has6 : Has Try.prog 6 := ⟨_, _, Try.func6, rfl, by kernel_rfl⟩
theorem has7 : Has Try.prog 7 := ⟨_, _, Try.func7, rfl, by kernel_rfl⟩
theorem has8 : Has Try.prog 8 := ⟨_, _, Try.func8, rfl, by kernel_rfl⟩
theorem has9 : Has Try.prog 9 := ⟨_, _, Try.func9, rfl, by kernel_rfl⟩
theorem has10 : Has Try.prog 10 := ⟨_, _, Try.func10, rfl, by kernel_rfl⟩
theorem has11 : Has Try.prog 11 := ⟨_, _, Try.func11, rfl, by kernel_rfl⟩
theorem has12 : Has Try.prog 12 := ⟨_, _, Try.func12, rfl, by kernel_rfl⟩
theorem has13 : Has Try.prog 13 := ⟨_, _, Try.func13, rfl, by kernel_rfl⟩
theorem has14 : Has Try.prog 14 := ⟨_, _, Try.func14, rfl, by kernel_rfl⟩
theorem has15 : Has Try.prog 15 := ⟨_, _, Try.func15, rfl, by kernel_rfl⟩
theorem has16 : Has Try.prog 16 := ⟨_, _, Try.func16, rfl, by kernel_rfl⟩
theorem has17 : Has Try.prog 17 := ⟨_, _, Try.func17, rfl, by kernel_rfl⟩
theorem has18 : Has Try.prog 18 := ⟨_, _, Try.func18, rfl, by kernel_rfl⟩
theorem has19 : Has Try.prog 19 := ⟨_, _, Try.func19, rfl, by kernel_rfl⟩
theorem has20 : Has Try.prog 20 := ⟨_, _, Try.func20, rfl, by kernel_rfl⟩
theorem has21 : Has Try.prog 21 := ⟨_, _, Try.func21, rfl, by kernel_rfl⟩
theorem has22 : Has Try.prog 22 := ⟨_, _, Try.func22, rfl, by kernel_rfl⟩
theorem has23 : Has Try.prog 23 := ⟨_, _, Try.func23, rfl, by kernel_rfl⟩
theorem has24 : Has Try.prog 24 := ⟨_, _, Try.func24, rfl, by kernel_rfl⟩
theorem has25 : Has Try.prog 25 := ⟨_, _, Try.func25, rfl, by kernel_rfl⟩
theorem has26 : Has Try.prog 26 := ⟨_, _, Try.func26, rfl, by kernel_rfl⟩
theorem has27 : Has Try.prog 27 := ⟨_, _, Try.func27, rfl, by kernel_rfl⟩
theorem has28 : Has Try.prog 28 := ⟨_, _, Try.func28, rfl, by kernel_rfl⟩
theorem has29 : Has Try.prog 29 := ⟨_, _, Try.func29, rfl, by kernel_rfl⟩
theorem has30 : Has Try.prog 30 := ⟨_, _, Try.func30, rfl, by kernel_rfl⟩
theorem has31 : Has Try.prog 31 := ⟨_, _, Try.func31, rfl, by kernel_rfl⟩
theorem has32 : Has Try.prog 32 := ⟨_, _, Try.func32, rfl, by kernel_rfl⟩
theorem has33 : Has Try.prog 33 := ⟨_, _, Try.func33, rfl, by kernel_rfl⟩
theorem has34 : Has Try.prog 34 := ⟨_, _, Try.func34, rfl, by kernel_rfl⟩
theorem has35 : Has Try.prog 35 := ⟨_, _, Try.func35, rfl, by kernel_rfl⟩
theorem has36 : Has Try.prog 36 := ⟨_, _, Try.func36, rfl, by kernel_rfl⟩
theorem has37 : Has Try.prog 37 := ⟨_, _, Try.func37, rfl, by kernel_rfl⟩
theorem has38 : Has Try.prog 38 := ⟨_, _, Try.func38, rfl, by kernel_rfl⟩
theorem has39 : Has Try.prog 39 := ⟨_, _, Try.func39, rfl, by kernel_rfl⟩
theorem has40 : Has Try.prog 40 := ⟨_, _, Try.func40, rfl, by kernel_rfl⟩
theorem has41 : Has Try.prog 41 := ⟨_, _, Try.func41, rfl, by kernel_rfl⟩
theorem has42 : Has Try.prog 42 := ⟨_, _, Try.func42, rfl, by kernel_rfl⟩
theorem has43 : Has Try.prog 43 := ⟨_, _, Try.func43, rfl, by kernel_rfl⟩
theorem has44 : Has Try.prog 44 := ⟨_, _, Try.func44, rfl, by kernel_rfl⟩
theorem has45 : Has Try.prog 45 := ⟨_, _, Try.func45, rfl, by kernel_rfl⟩
theorem has46 : Has Try.prog 46 := ⟨_, _, Try.func46, rfl, by kernel_rfl⟩
theorem has47 : Has Try.prog 47 := ⟨_, _, Try.func47, rfl, by kernel_rfl⟩
theorem has48 : Has Try.prog 48 := ⟨_, _, Try.func48, rfl, by kernel_rfl⟩
theorem has49 : Has Try.prog 49 := ⟨_, _, Try.func49, rfl, by kernel_rfl⟩
theorem has50 : Has Try.prog 50 := ⟨_, _, Try.func50, rfl, by kernel_rfl⟩
theorem has51 : Has Try.prog 51 := ⟨_, _, Try.func51, rfl, by kernel_rfl⟩
theorem has52 : Has Try.prog 52 := ⟨_, _, Try.func52, rfl, by kernel_rfl⟩
theorem has53 : Has Try.prog 53 := ⟨_, _, Try.func53, rfl, by kernel_rfl⟩
theorem has54 : Has Try.prog 54 := ⟨_, _, Try.func54, rfl, by kernel_rfl⟩
theorem has55 : Has Try.prog 55 := ⟨_, _, Try.func55, rfl, by kernel_rfl⟩
theorem has63 : Has Try.prog 63 := ⟨_, _, Try.func63, rfl, by kernel_rfl⟩
theorem has64 : Has Try.prog 64 := ⟨_, _, Try.func64, rfl, by kernel_rfl⟩
theorem has65 : Has Try.prog 65 := ⟨_, _, Try.func65, rfl, by kernel_rfl⟩
theorem has66 : Has Try.prog 66 := ⟨_, _, Try.func66, rfl, by kernel_rfl⟩
theorem has67 : Has Try.prog 67 := ⟨_, _, Try.func67, rfl, by kernel_rfl⟩
theorem has69 : Has Try.prog 69 := ⟨_, _, Try.func69, rfl, by kernel_rfl⟩
theorem has70 : Has Try.prog 70 := ⟨_, _, Try.func70, rfl, by kernel_rfl⟩
theorem has71 : Has Try.prog 71 := ⟨_, _, Try.func71, rfl, by kernel_rfl⟩
theorem has72 : Has Try.prog 72 := ⟨_, _, Try.func72, rfl, by kernel_rfl⟩
end Go.Proofs.Ythmkggadgcdmfaa

