/-
  No cell of these rows narrows 'for every input' (looked for: loops, veiled, ifaces, maps, wideKeys, modest, calm, conditions, laid).
  DERIVED. THE GIVEN ROWS OF THIS SEAT. 5 by the template 'for every input the law returns true; each argument reads behind the call as it read before'; 0 by the template 'total and deterministic' (their statements: YtoicghljdndpeaaTotals.lean).
  GIVEN WITH THE SEED: the statements are not yours to turn. If you find one false, say at which input.
  Laid BY PROGRAM, IN A SANDBOX (cutbox-rows.mjs): the forced cells as the released guide's own fill.sh prints them over the translation f8e524051d97f0f0… (all of the seat's roots in one cut). By AI agents, Wed Nov 11 2026. No macro, syntax, notation, axiom, sorry.
-/
import Derived.Test.YtoicghljdndpeaaChecked
import GoSem.Claim
import GoSem.ClaimJoined
import GoSem.ClaimMapViews
import Derived.JoinedTies
import Derived.KernelRfl
namespace Go.Proofs.Ytoicghljdndpeaa
/- THE CELL 'sum', in the pinned program and in every row, IS THE sha256 OF THE DUMP (.gsa) THAT YtoicghljdndpeaaProg.lean LOADS. Nothing in Lean hashes anything: it is a label: what it is worth is what the hold of that sum in a sandbox is worth. -/
noncomputable def Try.pinned : Pinned := { name := "ytoicghljdndpeaa", sum := "f8e524051d97f0f07097271f9d4bfcacbc46eea0e904c432b87dfe0257e841ff", checked := Try.checked }
namespace Rows
def none {H : Type} : Left H := { results := [], args := [] }

/-- 'paintboxlaw13.KindsCalls': WHATEVER THE INPUT: true; the input reads as it did. -/
def kindsCallsSpec : ChangeSpec := { name := "kindsCalls", fn := fun _ => fun
  | [d1, d2] => { results := [.lit (.bool true)], args := [d1, d2] }
  | _ => none }
def kindsCallsRow : OpenClaim := { program := "ytoicghljdndpeaa", sum := "f8e524051d97f0f07097271f9d4bfcacbc46eea0e904c432b87dfe0257e841ff", func := "paintbox/paintboxlaw13.KindsCalls", spec := "kindsCalls", inPlace := ["internal/bytealg.IndexByteString", "internal/bytealg.IndexString"], named := ["internal/bytealg.MaxLen"], apart := false }
def KindsCallsSaid : Prop := kindsCallsRow.holds Try.pinned (OpenSpec.ofChange kindsCallsSpec)

/-- ITS FALSE NEIGHBOUR: 'it returns false'. Refute it at one input. -/
def kindsCallsWrong : ChangeSpec := { name := "kindsCalls", fn := fun _ => fun
  | [d1, d2] => { results := [.lit (.bool false)], args := [d1, d2] }
  | _ => none }
def KindsCallsWrongFalsely : Prop := kindsCallsRow.holds Try.pinned (OpenSpec.ofChange kindsCallsWrong)

/-- 'paintboxlaw13.KindsWords': WHATEVER THE INPUT: true; the input reads as it did. -/
def kindsWordsSpec : ChangeSpec := { name := "kindsWords", fn := fun _ => fun
  | [d1, d2] => { results := [.lit (.bool true)], args := [d1, d2] }
  | _ => none }
def kindsWordsRow : OpenClaim := { program := "ytoicghljdndpeaa", sum := "f8e524051d97f0f07097271f9d4bfcacbc46eea0e904c432b87dfe0257e841ff", func := "paintbox/paintboxlaw13.KindsWords", spec := "kindsWords", inPlace := ["internal/bytealg.IndexByteString", "internal/bytealg.IndexString"], named := ["internal/bytealg.MaxLen"], apart := false }
def KindsWordsSaid : Prop := kindsWordsRow.holds Try.pinned (OpenSpec.ofChange kindsWordsSpec)

/-- ITS FALSE NEIGHBOUR: 'it returns false'. Refute it at one input. -/
def kindsWordsWrong : ChangeSpec := { name := "kindsWords", fn := fun _ => fun
  | [d1, d2] => { results := [.lit (.bool false)], args := [d1, d2] }
  | _ => none }
def KindsWordsWrongFalsely : Prop := kindsWordsRow.holds Try.pinned (OpenSpec.ofChange kindsWordsWrong)

/-- 'paintboxlaw13.KindsBack': WHATEVER THE INPUT: true; the input reads as it did. -/
def kindsBackSpec : ChangeSpec := { name := "kindsBack", fn := fun _ => fun
  | [d1, d2] => { results := [.lit (.bool true)], args := [d1, d2] }
  | _ => none }
def kindsBackRow : OpenClaim := { program := "ytoicghljdndpeaa", sum := "f8e524051d97f0f07097271f9d4bfcacbc46eea0e904c432b87dfe0257e841ff", func := "paintbox/paintboxlaw13.KindsBack", spec := "kindsBack", inPlace := ["internal/bytealg.IndexByteString", "internal/bytealg.IndexString"], named := ["internal/bytealg.MaxLen"], apart := false }
def KindsBackSaid : Prop := kindsBackRow.holds Try.pinned (OpenSpec.ofChange kindsBackSpec)

/-- ITS FALSE NEIGHBOUR: 'it returns false'. Refute it at one input. -/
def kindsBackWrong : ChangeSpec := { name := "kindsBack", fn := fun _ => fun
  | [d1, d2] => { results := [.lit (.bool false)], args := [d1, d2] }
  | _ => none }
def KindsBackWrongFalsely : Prop := kindsBackRow.holds Try.pinned (OpenSpec.ofChange kindsBackWrong)

/-- 'paintboxlaw13.KindsOrder': WHATEVER THE INPUT: true; the input reads as it did. -/
def kindsOrderSpec : ChangeSpec := { name := "kindsOrder", fn := fun _ => fun
  | [d1, d2] => { results := [.lit (.bool true)], args := [d1, d2] }
  | _ => none }
def kindsOrderRow : OpenClaim := { program := "ytoicghljdndpeaa", sum := "f8e524051d97f0f07097271f9d4bfcacbc46eea0e904c432b87dfe0257e841ff", func := "paintbox/paintboxlaw13.KindsOrder", spec := "kindsOrder", inPlace := ["internal/bytealg.IndexByteString", "internal/bytealg.IndexString"], named := ["internal/bytealg.MaxLen"], apart := false }
def KindsOrderSaid : Prop := kindsOrderRow.holds Try.pinned (OpenSpec.ofChange kindsOrderSpec)

/-- ITS FALSE NEIGHBOUR: 'it returns false'. Refute it at one input. -/
def kindsOrderWrong : ChangeSpec := { name := "kindsOrder", fn := fun _ => fun
  | [d1, d2] => { results := [.lit (.bool false)], args := [d1, d2] }
  | _ => none }
def KindsOrderWrongFalsely : Prop := kindsOrderRow.holds Try.pinned (OpenSpec.ofChange kindsOrderWrong)

/-- 'paintboxlaw13.KindsOperators': WHATEVER THE INPUT: true; the input reads as it did. -/
def kindsOperatorsSpec : ChangeSpec := { name := "kindsOperators", fn := fun _ => fun
  | [d1, d2] => { results := [.lit (.bool true)], args := [d1, d2] }
  | _ => none }
def kindsOperatorsRow : OpenClaim := { program := "ytoicghljdndpeaa", sum := "f8e524051d97f0f07097271f9d4bfcacbc46eea0e904c432b87dfe0257e841ff", func := "paintbox/paintboxlaw13.KindsOperators", spec := "kindsOperators", inPlace := ["internal/bytealg.IndexByteString", "internal/bytealg.IndexString"], named := ["internal/bytealg.MaxLen"], apart := false }
def KindsOperatorsSaid : Prop := kindsOperatorsRow.holds Try.pinned (OpenSpec.ofChange kindsOperatorsSpec)

/-- ITS FALSE NEIGHBOUR: 'it returns false'. Refute it at one input. -/
def kindsOperatorsWrong : ChangeSpec := { name := "kindsOperators", fn := fun _ => fun
  | [d1, d2] => { results := [.lit (.bool false)], args := [d1, d2] }
  | _ => none }
def KindsOperatorsWrongFalsely : Prop := kindsOperatorsRow.holds Try.pinned (OpenSpec.ofChange kindsOperatorsWrong)

/- THE SECOND FORM. 'bulk': how many values and letters a reading holds, each counted each time it is reached (what is shared counts as often as it is met; a slice's spare places count too). A statement '..UptoSaid' is the law's where the arguments, and the package variables that the reading takes, are together of bulk at most 1048576: NARROWER than '..Said'. Prove '..Said' where nothing that the law and all that it calls make is longer than what came in: it says more and counts as full. Else prove '..UptoSaid'. A law counts once. -/
mutual
def uptoBulk {H : Type} : DataW H → Nat
  | .lit (.string bytes) => bytes.length + 1
  | .lit _ => 1
  | .nil => 1
  | .ptr d => uptoBulk d + 1
  | .slice elems spare => uptoBulkAll elems + uptoBulkAll spare + 1
  | .agg parts => uptoBulkAll parts + 1
  | .iface _ d => uptoBulk d + 1
  | .map entries => uptoBulkEntries entries + 1
  | .held _ => 1
def uptoBulkAll {H : Type} : List (DataW H) → Nat
  | [] => 0
  | d :: r => uptoBulk d + uptoBulkAll r
def uptoBulkEntries {H : Type} : List (Lit × DataW H) → Nat
  | [] => 0
  | x :: r => uptoBulkEntry x + uptoBulkEntries r
def uptoBulkEntry {H : Type} : Lit × DataW H → Nat
  | (.string bytes, d) => bytes.length + uptoBulk d + 1
  | (_, d) => uptoBulk d + 1
 end
def uptoSmall : (H : Type) → List (DataW H) → Bool := fun _ ds => decide (uptoBulkAll ds ≤ 1048576)
def OpenSpec.upto (s : _root_.Go.ChangeSpec) : _root_.Go.OpenSpec := { _root_.Go.OpenSpec.ofChange s with cond := some uptoSmall }

/-- 'paintboxlaw13.KindsCalls', WHERE WHAT IT READS IS OF BULK AT MOST 1048576: true; the input reads as it did. -/
def kindsCallsUptoRow : OpenClaim := { program := "ytoicghljdndpeaa", sum := "f8e524051d97f0f07097271f9d4bfcacbc46eea0e904c432b87dfe0257e841ff", func := "paintbox/paintboxlaw13.KindsCalls", spec := "kindsCalls", inPlace := ["internal/bytealg.IndexByteString", "internal/bytealg.IndexString"], named := ["internal/bytealg.MaxLen"], apart := false, narrowed := true }
def KindsCallsUptoSaid : Prop := kindsCallsUptoRow.holds Try.pinned (OpenSpec.upto kindsCallsSpec)

/-- 'paintboxlaw13.KindsWords', WHERE WHAT IT READS IS OF BULK AT MOST 1048576: true; the input reads as it did. -/
def kindsWordsUptoRow : OpenClaim := { program := "ytoicghljdndpeaa", sum := "f8e524051d97f0f07097271f9d4bfcacbc46eea0e904c432b87dfe0257e841ff", func := "paintbox/paintboxlaw13.KindsWords", spec := "kindsWords", inPlace := ["internal/bytealg.IndexByteString", "internal/bytealg.IndexString"], named := ["internal/bytealg.MaxLen"], apart := false, narrowed := true }
def KindsWordsUptoSaid : Prop := kindsWordsUptoRow.holds Try.pinned (OpenSpec.upto kindsWordsSpec)

/-- 'paintboxlaw13.KindsBack', WHERE WHAT IT READS IS OF BULK AT MOST 1048576: true; the input reads as it did. -/
def kindsBackUptoRow : OpenClaim := { program := "ytoicghljdndpeaa", sum := "f8e524051d97f0f07097271f9d4bfcacbc46eea0e904c432b87dfe0257e841ff", func := "paintbox/paintboxlaw13.KindsBack", spec := "kindsBack", inPlace := ["internal/bytealg.IndexByteString", "internal/bytealg.IndexString"], named := ["internal/bytealg.MaxLen"], apart := false, narrowed := true }
def KindsBackUptoSaid : Prop := kindsBackUptoRow.holds Try.pinned (OpenSpec.upto kindsBackSpec)

/-- 'paintboxlaw13.KindsOrder', WHERE WHAT IT READS IS OF BULK AT MOST 1048576: true; the input reads as it did. -/
def kindsOrderUptoRow : OpenClaim := { program := "ytoicghljdndpeaa", sum := "f8e524051d97f0f07097271f9d4bfcacbc46eea0e904c432b87dfe0257e841ff", func := "paintbox/paintboxlaw13.KindsOrder", spec := "kindsOrder", inPlace := ["internal/bytealg.IndexByteString", "internal/bytealg.IndexString"], named := ["internal/bytealg.MaxLen"], apart := false, narrowed := true }
def KindsOrderUptoSaid : Prop := kindsOrderUptoRow.holds Try.pinned (OpenSpec.upto kindsOrderSpec)

/-- 'paintboxlaw13.KindsOperators', WHERE WHAT IT READS IS OF BULK AT MOST 1048576: true; the input reads as it did. -/
def kindsOperatorsUptoRow : OpenClaim := { program := "ytoicghljdndpeaa", sum := "f8e524051d97f0f07097271f9d4bfcacbc46eea0e904c432b87dfe0257e841ff", func := "paintbox/paintboxlaw13.KindsOperators", spec := "kindsOperators", inPlace := ["internal/bytealg.IndexByteString", "internal/bytealg.IndexString"], named := ["internal/bytealg.MaxLen"], apart := false, narrowed := true }
def KindsOperatorsUptoSaid : Prop := kindsOperatorsUptoRow.holds Try.pinned (OpenSpec.upto kindsOperatorsSpec)

end Rows
end Go.Proofs.Ytoicghljdndpeaa
