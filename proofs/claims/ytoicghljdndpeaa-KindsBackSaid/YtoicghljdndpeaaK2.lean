/- Walks of functions of this seat, and what they compute: lemmas for the proofs of its statements. No condition. -/
import Derived.Test.YtoicghljdndpeaaK1
namespace Go.Proofs.Ytoicghljdndpeaa
open Go.PB Go.RowKit
attribute [local irreducible] Go.Calls
def numP (p : Int × Int) : Prop := p.1 = 1 ∨ p.1 = 2
instance (p : Int × Int) : Decidable (numP p) := by unfold numP; infer_instance
def valP (p : Int × Int) : Prop := p.1 = 1 ∨ p.1 = 2 ∨ p.1 = 3
instance (p : Int × Int) : Decidable (valP p) := by unfold valP; infer_instance
/-- what comes of an operator of two -/
def binS (op : List UInt8) (a b : Int × Int) : (Int × Int) × Int :=
  if ¬(mayP a ∧ mayP b) then ((0, 0), 2)
  else if op = [43] ∨ op = [45] ∨ op = [42] ∨ op = [47] then
    if numP a ∧ a.1 = b.1 ∧ (a.2 = b.2 ∨ a.2 = 1 ∨ b.2 = 1) then ((a.1, max a.2 b.2), 0) else ((0, 0), 230)
  else if op = [60] ∨ op = [62] ∨ op = [60, 61] ∨ op = [62, 61] then if numP a ∧ a = b ∧ a.2 = 1 then ((3, 1), 0) else ((0, 0), 230)
  else if op = [61, 61] ∨ op = [33, 61] then if valP a ∧ a = b then ((3, 1), 0) else ((0, 0), 230)
  else if op = [38, 38] ∨ op = [124, 124] then if a = (3, 1) ∧ b = (3, 1) then ((3, 1), 0) else ((0, 0), 230)
  else ((0, 0), 4)
abbrev res2 (r : (Int × Int) × Int) : Value := .tuple #[tyv r.1.1 r.1.2, .int .i64 r.2]

/-- .. of one -/
def unS (op : List UInt8) (a : Int × Int) : (Int × Int) × Int :=
  if ¬mayP a then ((0, 0), 2) else if op ≠ [45] ∧ op ≠ [33] then ((0, 0), 4)
  else if op = [45] ∧ numP a ∨ op = [33] ∧ a = (3, 1) then (a, 0) else ((0, 0), 230)
/-- .. of an assignment -/
def asS (op : List UInt8) (p v : Int × Int) : (Int × Int) × Int :=
  if ¬(mayP p ∧ mayP v) then ((0, 0), 2)
  else if op = [61] then if valP p ∧ p = v then (p, 0) else ((0, 0), 230)
  else if op = [43, 61] ∨ op = [45, 61] ∨ op = [42, 61] ∨ op = [47, 61] then if (binS (op.take 1) p v).2 = 0 ∧ (binS (op.take 1) p v).1 = p then (p, 0) else ((0, 0), 230)
  else ((0, 0), 4)
/-- .. of a question -/
def coS (c a b : Int × Int) : (Int × Int) × Int :=
  if ¬(mayP c ∧ mayP a ∧ mayP b) then ((0, 0), 2) else if c = (3, 1) ∧ valP a ∧ a = b then (a, 0) else ((0, 0), 230)
theorem asS_ife {op : List UInt8} {a b c d : Int} (h : mayP (a, b) ∧ mayP (c, d)) (h1 : ¬op = [61]) (h2 : op = [43, 61] ∨ op = [45, 61] ∨ op = [42, 61] ∨ op = [47, 61]) :
    asS op (a, b) (c, d) = if (binS (op.take 1) (a, b) (c, d)).2 = 0 ∧ (binS (op.take 1) (a, b) (c, d)).1.1 = a ∧ (binS (op.take 1) (a, b) (c, d)).1.2 = b then ((a, b), 0) else ((0, 0), 230) := by
  unfold asS
  rw [if_neg (by simp [h]), if_neg h1, if_pos h2]
  have e : ∀ q : Int × Int, q = (a, b) ↔ q.1 = a ∧ q.2 = b := fun q => by rw [Prod.ext_iff]
  simp only [e]
end Go.Proofs.Ytoicghljdndpeaa
