/-
  DERIVED. GIVEN WITH THE SEED: THE CARDS: each row of YthhfandandfeeaaDoorRows.lean that lists a variable, with what it lists TIED to the program's text (the seventh form; the later family's looks); each row that meets fmt, with fmt's text TOLD by the authors' own Lean function (tested against real Go, not proved from fmt's source: count such statements apart). THE CARD IS WHAT COUNTS. Prove the row's statement (the work); the ties are given (YthhfandandfeeaaDoorTie.lean); close each card by the builder's one call (the guide's Derived/Test/ToyasCard.lean, 'card_holds'). Laid BY PROGRAM, IN A SANDBOX (cutbox-door.mjs). By AI agents, Wed Nov 11 2026. No macro, syntax, notation, axiom, sorry.
-/
import Derived.Test.YthhfandandfeeaaDoorRows
import GoSem.ClaimSeven
namespace Go.Proofs.YthhfandandfeeaaDoor
namespace Rows

/-- THE TIED CARD OF 'paintboxlaw11.PreRuns'. -/
def preRunsCard : Claim7 := { stood := { row := preRunsRow, standIns := [], harness := (true, "ee9fcb95a9f4bf441627cadb40e7203361f5ae7d872cb5e764a11ba56e25c838"), looks := false }, kinds := [], alts := [], laidByText := true, laidKinds := [.data, .data, .data], laidTests := true, laidLooks := .later }
def PreRunsCardSaid : Prop := Claim7.holds Tryd.pinned (.plain (OpenSpec.ofChange preRunsSpec)) preRunsCard

/-- THE TIED CARD OF 'paintboxlaw11.PreLines'. -/
def preLinesCard : Claim7 := { stood := { row := preLinesRow, standIns := [], harness := (true, "ee9fcb95a9f4bf441627cadb40e7203361f5ae7d872cb5e764a11ba56e25c838"), looks := false }, kinds := [], alts := [], laidByText := true, laidKinds := [.data, .data, .data], laidTests := true, laidLooks := .later }
def PreLinesCardSaid : Prop := Claim7.holds Tryd.pinned (.plain (OpenSpec.ofChange preLinesSpec)) preLinesCard

/-- THE TIED CARD OF 'paintboxlaw11.PrePlain'. -/
def prePlainCard : Claim7 := { stood := { row := prePlainRow, standIns := [], harness := (true, "ee9fcb95a9f4bf441627cadb40e7203361f5ae7d872cb5e764a11ba56e25c838"), looks := false }, kinds := [], alts := [], laidByText := true, laidKinds := [.data, .data, .data], laidTests := true, laidLooks := .later }
def PrePlainCardSaid : Prop := Claim7.holds Tryd.pinned (.plain (OpenSpec.ofChange prePlainSpec)) prePlainCard

/-- THE TIED CARD OF 'paintboxlaw11.PreSkips'. -/
def preSkipsCard : Claim7 := { stood := { row := preSkipsRow, standIns := [], harness := (true, "ee9fcb95a9f4bf441627cadb40e7203361f5ae7d872cb5e764a11ba56e25c838"), looks := false }, kinds := [], alts := [], laidByText := true, laidKinds := [.data, .data, .data], laidTests := true, laidLooks := .later }
def PreSkipsCardSaid : Prop := Claim7.holds Tryd.pinned (.plain (OpenSpec.ofChange preSkipsSpec)) preSkipsCard

/-- THE TIED CARD OF 'paintboxlaw11.PreNames'. -/
def preNamesCard : Claim7 := { stood := { row := preNamesRow, standIns := [], harness := (true, "ee9fcb95a9f4bf441627cadb40e7203361f5ae7d872cb5e764a11ba56e25c838"), looks := false }, kinds := [], alts := [], laidByText := true, laidKinds := [.data, .data, .data], laidTests := true, laidLooks := .later }
def PreNamesCardSaid : Prop := Claim7.holds Tryd.pinned (.plain (OpenSpec.ofChange preNamesSpec)) preNamesCard

/-- THE TIED CARD OF 'paintboxlaw11.PreFresh'. -/
def preFreshCard : Claim7 := { stood := { row := preFreshRow, standIns := [], harness := (true, "ee9fcb95a9f4bf441627cadb40e7203361f5ae7d872cb5e764a11ba56e25c838"), looks := false }, kinds := [], alts := [], laidByText := true, laidKinds := [.data, .data, .data], laidTests := true, laidLooks := .later }
def PreFreshCardSaid : Prop := Claim7.holds Tryd.pinned (.plain (OpenSpec.ofChange preFreshSpec)) preFreshCard

/-- THE SECOND FORM's CARD OF 'paintboxlaw11.PreRuns'. -/
def preRunsUptoCard : Claim7 := { stood := { row := preRunsUptoRow, standIns := [], harness := (true, "ee9fcb95a9f4bf441627cadb40e7203361f5ae7d872cb5e764a11ba56e25c838"), looks := false }, kinds := [], alts := [], laidByText := true, laidKinds := [.data, .data, .data], laidTests := true, laidLooks := .later }
def PreRunsUptoCardSaid : Prop := Claim7.holds Tryd.pinned (.plain (OpenSpec.upto preRunsSpec)) preRunsUptoCard

/-- THE SECOND FORM's CARD OF 'paintboxlaw11.PreLines'. -/
def preLinesUptoCard : Claim7 := { stood := { row := preLinesUptoRow, standIns := [], harness := (true, "ee9fcb95a9f4bf441627cadb40e7203361f5ae7d872cb5e764a11ba56e25c838"), looks := false }, kinds := [], alts := [], laidByText := true, laidKinds := [.data, .data, .data], laidTests := true, laidLooks := .later }
def PreLinesUptoCardSaid : Prop := Claim7.holds Tryd.pinned (.plain (OpenSpec.upto preLinesSpec)) preLinesUptoCard

/-- THE SECOND FORM's CARD OF 'paintboxlaw11.PrePlain'. -/
def prePlainUptoCard : Claim7 := { stood := { row := prePlainUptoRow, standIns := [], harness := (true, "ee9fcb95a9f4bf441627cadb40e7203361f5ae7d872cb5e764a11ba56e25c838"), looks := false }, kinds := [], alts := [], laidByText := true, laidKinds := [.data, .data, .data], laidTests := true, laidLooks := .later }
def PrePlainUptoCardSaid : Prop := Claim7.holds Tryd.pinned (.plain (OpenSpec.upto prePlainSpec)) prePlainUptoCard

/-- THE SECOND FORM's CARD OF 'paintboxlaw11.PreSkips'. -/
def preSkipsUptoCard : Claim7 := { stood := { row := preSkipsUptoRow, standIns := [], harness := (true, "ee9fcb95a9f4bf441627cadb40e7203361f5ae7d872cb5e764a11ba56e25c838"), looks := false }, kinds := [], alts := [], laidByText := true, laidKinds := [.data, .data, .data], laidTests := true, laidLooks := .later }
def PreSkipsUptoCardSaid : Prop := Claim7.holds Tryd.pinned (.plain (OpenSpec.upto preSkipsSpec)) preSkipsUptoCard

/-- THE SECOND FORM's CARD OF 'paintboxlaw11.PreNames'. -/
def preNamesUptoCard : Claim7 := { stood := { row := preNamesUptoRow, standIns := [], harness := (true, "ee9fcb95a9f4bf441627cadb40e7203361f5ae7d872cb5e764a11ba56e25c838"), looks := false }, kinds := [], alts := [], laidByText := true, laidKinds := [.data, .data, .data], laidTests := true, laidLooks := .later }
def PreNamesUptoCardSaid : Prop := Claim7.holds Tryd.pinned (.plain (OpenSpec.upto preNamesSpec)) preNamesUptoCard

/-- THE SECOND FORM's CARD OF 'paintboxlaw11.PreFresh'. -/
def preFreshUptoCard : Claim7 := { stood := { row := preFreshUptoRow, standIns := [], harness := (true, "ee9fcb95a9f4bf441627cadb40e7203361f5ae7d872cb5e764a11ba56e25c838"), looks := false }, kinds := [], alts := [], laidByText := true, laidKinds := [.data, .data, .data], laidTests := true, laidLooks := .later }
def PreFreshUptoCardSaid : Prop := Claim7.holds Tryd.pinned (.plain (OpenSpec.upto preFreshSpec)) preFreshUptoCard
end Rows
end Go.Proofs.YthhfandandfeeaaDoor
