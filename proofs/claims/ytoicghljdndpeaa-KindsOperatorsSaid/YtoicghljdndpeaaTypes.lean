import Derived.Test.YtoicghljdndpeaaProg
import Derived.Test.YtoicghljdndpeaaEng
/- the types' facts, printed by a program of mine (gen.py) off the translation -/
namespace Go.Proofs.Ytoicghljdndpeaa
open Go.PB

def szTab : TypeId → Option Nat
  | 2 => some 1
  | 3 => some 1
  | 4 => some 1
  | 5 => some 1
  | 9 => some 1
  | 12 => some 1
  | 21 => some 1
  | 22 => some 1
  | 24 => some 2
  | 25 => some 2
  | 26 => some 1
  | 41 => some 1
  | 44 => some 6
  | 45 => some 6
  | 51 => some 2
  | 52 => some 2
  | 54 => some 1
  | 58 => some 1
  | 62 => some 11
  | 67 => some 4
  | 68 => some 1
  | 71 => some 1
  | 72 => some 1
  | 85 => some 1
  | _ => none

theorem szT {t : TypeId} {n : Nat} (h : szTab t = some n) : Sz Try.prog t n := by
  unfold szTab at h
  split at h <;> first | (cases h; unfold Sz; kernel_rfl) | cases h

def byTab : TypeId → Option Nat
  | 2 => some 8
  | 3 => some 8
  | 4 => some 1
  | 5 => some 1
  | 9 => some 16
  | 12 => some 8
  | 21 => some 4
  | 22 => some 24
  | 24 => some 16
  | 25 => some 16
  | 26 => some 8
  | 41 => some 24
  | 44 => some 48
  | 45 => some 48
  | 51 => some 32
  | 52 => some 32
  | 54 => some 8
  | 58 => some 8
  | 62 => some 176
  | 67 => some 64
  | 68 => some 24
  | 71 => some 8
  | 72 => some 4
  | 85 => some 8
  | _ => none

theorem byT {t : TypeId} {n : Nat} (h : byTab t = some n) : By Try.prog t n := by
  unfold byTab at h
  split at h <;> first | (cases h; unfold By; kernel_rfl) | cases h

def agTab : TypeId → Option Bool
  | 2 => some false
  | 3 => some false
  | 4 => some false
  | 5 => some false
  | 9 => some false
  | 12 => some false
  | 21 => some false
  | 22 => some false
  | 24 => some true
  | 25 => some true
  | 26 => some false
  | 41 => some false
  | 44 => some true
  | 45 => some true
  | 51 => some true
  | 52 => some true
  | 54 => some false
  | 58 => some false
  | 62 => some true
  | 67 => some true
  | 68 => some false
  | 71 => some false
  | 72 => some false
  | 85 => some false
  | _ => none

theorem agT {t : TypeId} {b : Bool} (h : agTab t = some b) : Ag Try.prog t b := by
  unfold agTab at h
  split at h
  · cases h; exact ⟨_, Try.underlying2, rfl⟩
  · cases h; exact ⟨_, Try.underlying3, rfl⟩
  · cases h; exact ⟨_, Try.underlying4, rfl⟩
  · cases h; exact ⟨_, Try.underlying5, rfl⟩
  · cases h; exact ⟨_, Try.underlying9, rfl⟩
  · cases h; exact ⟨_, Try.underlying12, rfl⟩
  · cases h; exact ⟨_, Try.underlying21, rfl⟩
  · cases h; exact ⟨_, Try.underlying22, rfl⟩
  · cases h; exact ⟨_, Try.underlying24, rfl⟩
  · cases h; exact ⟨_, Try.underlying25, rfl⟩
  · cases h; exact ⟨_, Try.underlying26, rfl⟩
  · cases h; exact ⟨_, Try.underlying41, rfl⟩
  · cases h; exact ⟨_, Try.underlying44, rfl⟩
  · cases h; exact ⟨_, Try.underlying45, rfl⟩
  · cases h; exact ⟨_, Try.underlying51, rfl⟩
  · cases h; exact ⟨_, Try.underlying52, rfl⟩
  · cases h; exact ⟨_, Try.underlying54, rfl⟩
  · cases h; exact ⟨_, Try.underlying58, rfl⟩
  · cases h; exact ⟨_, Try.underlying62, rfl⟩
  · cases h; exact ⟨_, Try.underlying67, rfl⟩
  · cases h; exact ⟨_, Try.underlying68, rfl⟩
  · cases h; exact ⟨_, Try.underlying71, rfl⟩
  · cases h; exact ⟨_, Try.underlying72, rfl⟩
  · cases h; exact ⟨_, Try.underlying85, rfl⟩
  · cases h

def zeroTab : TypeId → Option (List Value)
  | 2 => some [.int .i64 0]
  | 3 => some [.int .i64 0]
  | 4 => some [.bool false]
  | 5 => some [.int .u8 0]
  | 9 => some [.string ⟨[].toArray⟩]
  | 12 => some [.int .u64 0]
  | 21 => some [.int .i32 0]
  | 22 => some [.slice none 0 0]
  | 24 => some [.int .i64 0, .int .i64 0]
  | 25 => some [.int .i64 0, .int .i64 0]
  | 26 => some [.int .i64 0]
  | 41 => some [.slice none 0 0]
  | 44 => some [.int .i64 0, .int .i64 0, .int .i64 0, .int .i64 0, .int .i64 0, .int .i64 0]
  | 45 => some [.int .i64 0, .int .i64 0, .int .i64 0, .int .i64 0, .int .i64 0, .int .i64 0]
  | 51 => some [.int .i64 0, .slice none 0 0]
  | 52 => some [.int .i64 0, .slice none 0 0]
  | 54 => some [.map none]
  | 58 => some [.map none]
  | 62 => some [.string ⟨[].toArray⟩, .string ⟨[].toArray⟩, .string ⟨[].toArray⟩, .string ⟨[].toArray⟩, .string ⟨[].toArray⟩, .string ⟨[].toArray⟩, .string ⟨[].toArray⟩, .string ⟨[].toArray⟩, .string ⟨[].toArray⟩, .string ⟨[].toArray⟩, .string ⟨[].toArray⟩]
  | 67 => some [.string ⟨[].toArray⟩, .string ⟨[].toArray⟩, .string ⟨[].toArray⟩, .string ⟨[].toArray⟩]
  | 68 => some [.slice none 0 0]
  | 71 => some [.int .u64 0]
  | 72 => some [.int .u32 0]
  | 85 => some [.pointer none]
  | _ => none

theorem zero_of {t : TypeId} {z : Value} {l : List Value} (h : (Try.prog.info? t).map (·.zero) = some (some z)) (hl : z.cells = l.toArray) : Zero Try.prog t l := by
  obtain ⟨i, hi, hz⟩ := Option.map_eq_some_iff.1 h
  exact ⟨i, z, hi, hz, hl⟩

theorem zeroT {t : TypeId} {l : List Value} (h : zeroTab t = some l) : Zero Try.prog t l := by
  unfold zeroTab at h
  split at h
  · cases h; exact zero_of (z := (.int .i64 0)) (by kernel_rfl) rfl
  · cases h; exact zero_of (z := (.int .i64 0)) (by kernel_rfl) rfl
  · cases h; exact zero_of (z := (.bool false)) (by kernel_rfl) rfl
  · cases h; exact zero_of (z := (.int .u8 0)) (by kernel_rfl) rfl
  · cases h; exact zero_of (z := (.string ⟨[].toArray⟩)) (by kernel_rfl) rfl
  · cases h; exact zero_of (z := (.int .u64 0)) (by kernel_rfl) rfl
  · cases h; exact zero_of (z := (.int .i32 0)) (by kernel_rfl) rfl
  · cases h; exact zero_of (z := (.slice none 0 0)) (by kernel_rfl) rfl
  · cases h; exact zero_of (z := (.agg #[.int .i64 0, .int .i64 0])) (by kernel_rfl) rfl
  · cases h; exact zero_of (z := (.agg #[.int .i64 0, .int .i64 0])) (by kernel_rfl) rfl
  · cases h; exact zero_of (z := (.int .i64 0)) (by kernel_rfl) rfl
  · cases h; exact zero_of (z := (.slice none 0 0)) (by kernel_rfl) rfl
  · cases h; exact zero_of (z := (.agg #[.int .i64 0, .int .i64 0, .int .i64 0, .int .i64 0, .int .i64 0, .int .i64 0])) (by kernel_rfl) rfl
  · cases h; exact zero_of (z := (.agg #[.int .i64 0, .int .i64 0, .int .i64 0, .int .i64 0, .int .i64 0, .int .i64 0])) (by kernel_rfl) rfl
  · cases h; exact zero_of (z := (.agg #[.int .i64 0, .slice none 0 0])) (by kernel_rfl) rfl
  · cases h; exact zero_of (z := (.agg #[.int .i64 0, .slice none 0 0])) (by kernel_rfl) rfl
  · cases h; exact zero_of (z := (.map none)) (by kernel_rfl) rfl
  · cases h; exact zero_of (z := (.map none)) (by kernel_rfl) rfl
  · cases h; exact zero_of (z := (.agg #[.string ⟨[].toArray⟩, .string ⟨[].toArray⟩, .string ⟨[].toArray⟩, .string ⟨[].toArray⟩, .string ⟨[].toArray⟩, .string ⟨[].toArray⟩, .string ⟨[].toArray⟩, .string ⟨[].toArray⟩, .string ⟨[].toArray⟩, .string ⟨[].toArray⟩, .string ⟨[].toArray⟩])) (by kernel_rfl) rfl
  · cases h; exact zero_of (z := (.agg #[.string ⟨[].toArray⟩, .string ⟨[].toArray⟩, .string ⟨[].toArray⟩, .string ⟨[].toArray⟩])) (by kernel_rfl) rfl
  · cases h; exact zero_of (z := (.slice none 0 0)) (by kernel_rfl) rfl
  · cases h; exact zero_of (z := (.int .u64 0)) (by kernel_rfl) rfl
  · cases h; exact zero_of (z := (.int .u32 0)) (by kernel_rfl) rfl
  · cases h; exact zero_of (z := (.pointer none)) (by kernel_rfl) rfl
  · cases h

def slTab : TypeId → Option TypeId
  | 22 => some 25
  | 41 => some 9
  | 68 => some 67
  | _ => none

theorem slT {t e : TypeId} (h : slTab t = some e) : Sl Try.prog t e := by
  unfold slTab at h
  split at h
  · cases h; exact Try.underlying22
  · cases h; exact Try.underlying41
  · cases h; exact Try.underlying68
  · cases h

def intTab : TypeId → Option IntKind
  | 2 => some IntKind.i64
  | 3 => some IntKind.i64
  | 5 => some IntKind.u8
  | 12 => some IntKind.u64
  | 21 => some IntKind.i32
  | 26 => some IntKind.i64
  | 71 => some IntKind.u64
  | 72 => some IntKind.u32
  | _ => none

theorem intT {t : TypeId} {k : IntKind} (h : intTab t = some k) : Try.prog.underlying t = some (.int k) := by
  unfold intTab at h
  split at h
  · cases h; exact Try.underlying2
  · cases h; exact Try.underlying3
  · cases h; exact Try.underlying5
  · cases h; exact Try.underlying12
  · cases h; exact Try.underlying21
  · cases h; exact Try.underlying26
  · cases h; exact Try.underlying71
  · cases h; exact Try.underlying72
  · cases h

def strTab : TypeId → Option Unit
  | 9 => some ()
  | _ => none

theorem strT {t : TypeId} (h : strTab t = some ()) : Try.prog.underlying t = some .string := by
  unfold strTab at h
  split at h
  · exact Try.underlying9
  · cases h

theorem dT {t : TypeId} {k : IntKind} (h : intTab t = some k) : ∃ d, Try.prog.underlying t = some d := ⟨_, intT h⟩

def fldTab : TypeId → Nat → Option (Nat × TypeId)
  | 24, 0 => some (0, 3)
  | 24, 1 => some (1, 3)
  | 25, 0 => some (0, 3)
  | 25, 1 => some (1, 3)
  | 44, 0 => some (0, 25)
  | 44, 1 => some (2, 25)
  | 44, 2 => some (4, 25)
  | 45, 0 => some (0, 25)
  | 45, 1 => some (2, 25)
  | 45, 2 => some (4, 25)
  | 51, 0 => some (0, 3)
  | 51, 1 => some (1, 41)
  | 52, 0 => some (0, 3)
  | 52, 1 => some (1, 41)
  | _, _ => none

theorem fldT {t f off : Nat} {ft : TypeId} (h : fldTab t f = some (off, ft)) : Fld Try.prog t f off ft := by
  unfold fldTab at h
  split at h
  · cases h; exact ⟨_, _, Try.underlying24, rfl, rfl, rfl, 0, szT rfl⟩
  · cases h; exact ⟨_, _, Try.underlying24, rfl, rfl, rfl, 0, szT rfl⟩
  · cases h; exact ⟨_, _, Try.underlying25, rfl, rfl, rfl, 0, szT rfl⟩
  · cases h; exact ⟨_, _, Try.underlying25, rfl, rfl, rfl, 0, szT rfl⟩
  · cases h; exact ⟨_, _, Try.underlying44, rfl, rfl, rfl, 1, szT rfl⟩
  · cases h; exact ⟨_, _, Try.underlying44, rfl, rfl, rfl, 1, szT rfl⟩
  · cases h; exact ⟨_, _, Try.underlying44, rfl, rfl, rfl, 1, szT rfl⟩
  · cases h; exact ⟨_, _, Try.underlying45, rfl, rfl, rfl, 1, szT rfl⟩
  · cases h; exact ⟨_, _, Try.underlying45, rfl, rfl, rfl, 1, szT rfl⟩
  · cases h; exact ⟨_, _, Try.underlying45, rfl, rfl, rfl, 1, szT rfl⟩
  · cases h; exact ⟨_, _, Try.underlying51, rfl, rfl, rfl, 0, szT rfl⟩
  · cases h; exact ⟨_, _, Try.underlying51, rfl, rfl, rfl, 0, szT rfl⟩
  · cases h; exact ⟨_, _, Try.underlying52, rfl, rfl, rfl, 0, szT rfl⟩
  · cases h; exact ⟨_, _, Try.underlying52, rfl, rfl, rfl, 0, szT rfl⟩
  · cases h

def bldTab : TypeId → Option (List Value × List (Nat × Nat))
  | 24 => some ([.int .i64 0, .int .i64 0], [(0, 1), (1, 1)])
  | 25 => some ([.int .i64 0, .int .i64 0], [(0, 1), (1, 1)])
  | 44 => some ([.int .i64 0, .int .i64 0, .int .i64 0, .int .i64 0, .int .i64 0, .int .i64 0], [(0, 2), (2, 2), (4, 2)])
  | 45 => some ([.int .i64 0, .int .i64 0, .int .i64 0, .int .i64 0, .int .i64 0, .int .i64 0], [(0, 2), (2, 2), (4, 2)])
  | 51 => some ([.int .i64 0, .slice none 0 0], [(0, 1), (1, 1)])
  | 52 => some ([.int .i64 0, .slice none 0 0], [(0, 1), (1, 1)])
  | 62 => some ([.string ⟨[].toArray⟩, .string ⟨[].toArray⟩, .string ⟨[].toArray⟩, .string ⟨[].toArray⟩, .string ⟨[].toArray⟩, .string ⟨[].toArray⟩, .string ⟨[].toArray⟩, .string ⟨[].toArray⟩, .string ⟨[].toArray⟩, .string ⟨[].toArray⟩, .string ⟨[].toArray⟩], [(0, 1), (1, 1), (2, 1), (3, 1), (4, 1), (5, 1), (6, 1), (7, 1), (8, 1), (9, 1), (10, 1)])
  | 67 => some ([.string ⟨[].toArray⟩, .string ⟨[].toArray⟩, .string ⟨[].toArray⟩, .string ⟨[].toArray⟩], [(0, 1), (1, 1), (2, 1), (3, 1)])
  | _ => none

theorem bldT {t : TypeId} {z : List Value} {pl : List (Nat × Nat)} (h : bldTab t = some (z, pl)) : Bld Try.prog t z pl := by
  unfold bldTab at h
  split at h
  · cases h; exact ⟨zeroT rfl, .inl ⟨_, Try.underlying24, by kernel_rfl⟩⟩
  · cases h; exact ⟨zeroT rfl, .inl ⟨_, Try.underlying25, by kernel_rfl⟩⟩
  · cases h; exact ⟨zeroT rfl, .inl ⟨_, Try.underlying44, by kernel_rfl⟩⟩
  · cases h; exact ⟨zeroT rfl, .inl ⟨_, Try.underlying45, by kernel_rfl⟩⟩
  · cases h; exact ⟨zeroT rfl, .inl ⟨_, Try.underlying51, by kernel_rfl⟩⟩
  · cases h; exact ⟨zeroT rfl, .inl ⟨_, Try.underlying52, by kernel_rfl⟩⟩
  · cases h; exact ⟨zeroT rfl, .inr ⟨_, _, _, Try.underlying62, szT rfl, by decide⟩⟩
  · cases h; exact ⟨zeroT rfl, .inr ⟨_, _, _, Try.underlying67, szT rfl, by decide⟩⟩
  · cases h

def mpTab : TypeId → Option (TypeId × TypeId)
  | 54 => some (9, 52)
  | 58 => some (9, 25)
  | _ => none

theorem mpT {t k e : TypeId} (h : mpTab t = some (k, e)) : Mp Try.prog t k e := by
  unfold mpTab at h
  split at h
  · cases h; exact ⟨Try.underlying54, Try.underlying9⟩
  · cases h; exact ⟨Try.underlying58, Try.underlying9⟩
  · cases h

def zeroVTab : TypeId → Option Value
  | 2 => some (.int .i64 0)
  | 3 => some (.int .i64 0)
  | 4 => some (.bool false)
  | 5 => some (.int .u8 0)
  | 9 => some (.string ⟨[].toArray⟩)
  | 12 => some (.int .u64 0)
  | 21 => some (.int .i32 0)
  | 22 => some (.slice none 0 0)
  | 24 => some (.agg #[.int .i64 0, .int .i64 0])
  | 25 => some (.agg #[.int .i64 0, .int .i64 0])
  | 26 => some (.int .i64 0)
  | 41 => some (.slice none 0 0)
  | 44 => some (.agg #[.int .i64 0, .int .i64 0, .int .i64 0, .int .i64 0, .int .i64 0, .int .i64 0])
  | 45 => some (.agg #[.int .i64 0, .int .i64 0, .int .i64 0, .int .i64 0, .int .i64 0, .int .i64 0])
  | 51 => some (.agg #[.int .i64 0, .slice none 0 0])
  | 52 => some (.agg #[.int .i64 0, .slice none 0 0])
  | 54 => some (.map none)
  | 58 => some (.map none)
  | 62 => some (.agg #[.string ⟨[].toArray⟩, .string ⟨[].toArray⟩, .string ⟨[].toArray⟩, .string ⟨[].toArray⟩, .string ⟨[].toArray⟩, .string ⟨[].toArray⟩, .string ⟨[].toArray⟩, .string ⟨[].toArray⟩, .string ⟨[].toArray⟩, .string ⟨[].toArray⟩, .string ⟨[].toArray⟩])
  | 67 => some (.agg #[.string ⟨[].toArray⟩, .string ⟨[].toArray⟩, .string ⟨[].toArray⟩, .string ⟨[].toArray⟩])
  | 68 => some (.slice none 0 0)
  | 71 => some (.int .u64 0)
  | 72 => some (.int .u32 0)
  | 85 => some (.pointer none)
  | _ => none

theorem zeroVT {t : TypeId} {v : Value} (h : zeroVTab t = some v) : ZeroV Try.prog t v := by
  unfold zeroVTab at h
  split at h <;> first | (cases h; unfold ZeroV; kernel_rfl) | cases h

def flatTab : TypeId → Option (List Nat)
  | 24 => some [0, 0]
  | 25 => some [0, 0]
  | _ => none

theorem flatT {t : TypeId} {ks : List Nat} (h : flatTab t = some ks) : Flat Try.prog t ks := by
  unfold flatTab at h
  split at h
  · cases h; exact ⟨⟨_, Try.underlying24, ⟨by decide, rfl, ⟨_, Try.underlying3⟩, ⟨by decide, rfl, ⟨_, Try.underlying3⟩, trivial⟩⟩⟩, by kernel_rfl, by kernel_rfl⟩
  · cases h; exact ⟨⟨_, Try.underlying25, ⟨by decide, rfl, ⟨_, Try.underlying3⟩, ⟨by decide, rfl, ⟨_, Try.underlying3⟩, trivial⟩⟩⟩, by kernel_rfl, by kernel_rfl⟩
  · cases h

def arrTab : TypeId → Option (Nat × TypeId)
  | 62 => some (11, 9)
  | 67 => some (4, 9)
  | _ => none

theorem arrT {t m e : Nat} (h : arrTab t = some (m, e)) : Try.prog.underlying t = some (.array m e) := by
  unfold arrTab at h
  split at h
  · cases h; exact Try.underlying62
  · cases h; exact Try.underlying67
  · cases h

theorem mixed : Try.prog.follows .mixedOrders = true := by kernel_rfl

theorem has3 : Has Try.prog 3 := ⟨_, _, Try.func3, rfl, by kernel_rfl⟩
theorem has4 : Has Try.prog 4 := ⟨_, _, Try.func4, rfl, by kernel_rfl⟩
theorem has5 : Has Try.prog 5 := ⟨_, _, Try.func5, rfl, by kernel_rfl⟩
theorem has6 : Has Try.prog 6 := ⟨_, _, Try.func6, rfl, by kernel_rfl⟩
theorem has7 : Has Try.prog 7 := ⟨_, _, Try.func7, rfl, by kernel_rfl⟩
theorem has8 : Has Try.prog 8 := ⟨_, _, Try.func8, rfl, by kernel_rfl⟩
theorem has9 : Has Try.prog 9 := ⟨_, _, Try.func9, rfl, by kernel_rfl⟩
theorem has10 : Has Try.prog 10 := ⟨_, _, Try.func10, rfl, by kernel_rfl⟩
theorem has11 : Has Try.prog 11 := ⟨_, _, Try.func11, rfl, by kernel_rfl⟩
theorem has12 : Has Try.prog 12 := ⟨_, _, Try.func12, rfl, by kernel_rfl⟩
theorem has13 : Has Try.prog 13 := ⟨_, _, Try.func13, rfl, by kernel_rfl⟩
theorem has14 : Has Try.prog 14 := ⟨_, _, Try.func14, rfl, by kernel_rfl⟩
theorem has15 : Has Try.prog 15 := ⟨_, _, Try.func15, rfl, by kernel_rfl⟩
theorem has16 : Has Try.prog 16 := ⟨_, _, Try.func16, rfl, by kernel_rfl⟩
theorem has17 : Has Try.prog 17 := ⟨_, _, Try.func17, rfl, by kernel_rfl⟩
theorem has18 : Has Try.prog 18 := ⟨_, _, Try.func18, rfl, by kernel_rfl⟩
theorem has19 : Has Try.prog 19 := ⟨_, _, Try.func19, rfl, by kernel_rfl⟩
theorem has20 : Has Try.prog 20 := ⟨_, _, Try.func20, rfl, by kernel_rfl⟩
theorem has21 : Has Try.prog 21 := ⟨_, _, Try.func21, rfl, by kernel_rfl⟩
theorem has22 : Has Try.prog 22 := ⟨_, _, Try.func22, rfl, by kernel_rfl⟩
theorem has23 : Has Try.prog 23 := ⟨_, _, Try.func23, rfl, by kernel_rfl⟩
theorem has24 : Has Try.prog 24 := ⟨_, _, Try.func24, rfl, by kernel_rfl⟩
theorem has25 : Has Try.prog 25 := ⟨_, _, Try.func25, rfl, by kernel_rfl⟩
theorem has26 : Has Try.prog 26 := ⟨_, _, Try.func26, rfl, by kernel_rfl⟩
theorem has27 : Has Try.prog 27 := ⟨_, _, Try.func27, rfl, by kernel_rfl⟩
theorem has28 : Has Try.prog 28 := ⟨_, _, Try.func28, rfl, by kernel_rfl⟩
theorem has29 : Has Try.prog 29 := ⟨_, _, Try.func29, rfl, by kernel_rfl⟩
theorem has30 : Has Try.prog 30 := ⟨_, _, Try.func30, rfl, by kernel_rfl⟩
theorem has31 : Has Try.prog 31 := ⟨_, _, Try.func31, rfl, by kernel_rfl⟩
theorem has32 : Has Try.prog 32 := ⟨_, _, Try.func32, rfl, by kernel_rfl⟩
theorem has33 : Has Try.prog 33 := ⟨_, _, Try.func33, rfl, by kernel_rfl⟩
theorem has34 : Has Try.prog 34 := ⟨_, _, Try.func34, rfl, by kernel_rfl⟩
theorem has35 : Has Try.prog 35 := ⟨_, _, Try.func35, rfl, by kernel_rfl⟩
theorem has36 : Has Try.prog 36 := ⟨_, _, Try.func36, rfl, by kernel_rfl⟩
theorem has37 : Has Try.prog 37 := ⟨_, _, Try.func37, rfl, by kernel_rfl⟩
theorem has38 : Has Try.prog 38 := ⟨_, _, Try.func38, rfl, by kernel_rfl⟩
theorem has39 : Has Try.prog 39 := ⟨_, _, Try.func39, rfl, by kernel_rfl⟩
theorem has40 : Has Try.prog 40 := ⟨_, _, Try.func40, rfl, by kernel_rfl⟩
theorem has41 : Has Try.prog 41 := ⟨_, _, Try.func41, rfl, by kernel_rfl⟩
theorem has42 : Has Try.prog 42 := ⟨_, _, Try.func42, rfl, by kernel_rfl⟩
theorem has43 : Has Try.prog 43 := ⟨_, _, Try.func43, rfl, by kernel_rfl⟩
end Go.Proofs.Ytoicghljdndpeaa

