/-
  DERIVED. GIVEN WITH THE SEED: THE CARDS: each row of YtjeaglhjbadadaaDoorRows.lean that lists a variable, with what it lists TIED to the program's text (the seventh form; the later family's looks); each row that meets fmt, with fmt's text TOLD by the authors' own Lean function (tested against real Go, not proved from fmt's source: count such statements apart). THE CARD IS WHAT COUNTS. Prove the row's statement (the work); the ties are given (YtjeaglhjbadadaaDoorTie.lean); close each card by the builder's one call (the guide's Derived/Test/ToyasCard.lean, 'card_holds'). Laid BY PROGRAM, IN A SANDBOX (cutbox-door.mjs). By AI agents, Wed Nov 11 2026. No macro, syntax, notation, axiom, sorry.
-/
import Derived.Test.YtjeaglhjbadadaaDoorRows
import GoSem.ClaimSeven
namespace Go.Proofs.YtjeaglhjbadadaaDoor
namespace Rows

/-- THE TIED CARD OF 'paintboxlaw02.FixTexts'. -/
def fixTextsCard : Claim7 := { stood := { row := fixTextsRow, standIns := [], harness := (true, "d1667ba67b8912a0bc27f3b6693eddbaf9de8fb2414ee2191402028f04dd01db"), looks := false }, kinds := [], alts := [], laidByText := true, laidKinds := [.data, .data, .data, .data, .pinned], laidTests := true, laidLooks := .later }
def FixTextsCardSaid : Prop := Claim7.holds Tryd.pinned (.plain (OpenSpec.ofChange fixTextsSpec)) fixTextsCard

/-- THE TIED CARD OF 'paintboxlaw02.FixNear'. -/
def fixNearCard : Claim7 := { stood := { row := fixNearRow, standIns := [], harness := (true, "d1667ba67b8912a0bc27f3b6693eddbaf9de8fb2414ee2191402028f04dd01db"), looks := false }, kinds := [], alts := [], laidByText := true, laidKinds := [.data, .data, .data, .data, .pinned], laidTests := true, laidLooks := .later }
def FixNearCardSaid : Prop := Claim7.holds Tryd.pinned (.plain (OpenSpec.ofChange fixNearSpec)) fixNearCard

/-- THE TIED CARD OF 'paintboxlaw02.FixTurns'. -/
def fixTurnsCard : Claim7 := { stood := { row := fixTurnsRow, standIns := [], harness := (true, "d1667ba67b8912a0bc27f3b6693eddbaf9de8fb2414ee2191402028f04dd01db"), looks := false }, kinds := [], alts := [], laidByText := true, laidKinds := [.data, .data, .data, .data, .pinned], laidTests := true, laidLooks := .later }
def FixTurnsCardSaid : Prop := Claim7.holds Tryd.pinned (.plain (OpenSpec.ofChange fixTurnsSpec)) fixTurnsCard

/-- THE TIED CARD OF 'paintboxlaw02.FixMuls'. -/
def fixMulsCard : Claim7 := { stood := { row := fixMulsRow, standIns := [], harness := (true, "d1667ba67b8912a0bc27f3b6693eddbaf9de8fb2414ee2191402028f04dd01db"), looks := false }, kinds := [], alts := [], laidByText := true, laidKinds := [.data, .data, .data, .data, .pinned], laidTests := true, laidLooks := .later }
def FixMulsCardSaid : Prop := Claim7.holds Tryd.pinned (.plain (OpenSpec.ofChange fixMulsSpec)) fixMulsCard

/-- THE TIED CARD OF 'paintboxlaw02.FixBack'. -/
def fixBackCard : Claim7 := { stood := { row := fixBackRow, standIns := [], harness := (true, "d1667ba67b8912a0bc27f3b6693eddbaf9de8fb2414ee2191402028f04dd01db"), looks := false }, kinds := [], alts := [], laidByText := true, laidKinds := [.data, .data, .data, .data, .pinned], laidTests := true, laidLooks := .later }
def FixBackCardSaid : Prop := Claim7.holds Tryd.pinned (.plain (OpenSpec.ofChange fixBackSpec)) fixBackCard

/-- THE TIED CARD OF 'paintboxlaw02.FixRises'. -/
def fixRisesCard : Claim7 := { stood := { row := fixRisesRow, standIns := [], harness := (true, "d1667ba67b8912a0bc27f3b6693eddbaf9de8fb2414ee2191402028f04dd01db"), looks := false }, kinds := [], alts := [], laidByText := true, laidKinds := [.data, .data, .data, .data, .pinned], laidTests := true, laidLooks := .later }
def FixRisesCardSaid : Prop := Claim7.holds Tryd.pinned (.plain (OpenSpec.ofChange fixRisesSpec)) fixRisesCard

/-- THE TIED CARD OF 'paintboxlaw02.FixAdds'. -/
def fixAddsCard : Claim7 := { stood := { row := fixAddsRow, standIns := [], harness := (true, "d1667ba67b8912a0bc27f3b6693eddbaf9de8fb2414ee2191402028f04dd01db"), looks := false }, kinds := [], alts := [], laidByText := true, laidKinds := [.data, .data, .data, .data, .pinned], laidTests := true, laidLooks := .later }
def FixAddsCardSaid : Prop := Claim7.holds Tryd.pinned (.plain (OpenSpec.ofChange fixAddsSpec)) fixAddsCard

/-- THE TIED CARD OF 'paintboxlaw02.FixCuts'. -/
def fixCutsCard : Claim7 := { stood := { row := fixCutsRow, standIns := [], harness := (true, "d1667ba67b8912a0bc27f3b6693eddbaf9de8fb2414ee2191402028f04dd01db"), looks := false }, kinds := [], alts := [], laidByText := true, laidKinds := [.data, .data, .data, .data, .pinned], laidTests := true, laidLooks := .later }
def FixCutsCardSaid : Prop := Claim7.holds Tryd.pinned (.plain (OpenSpec.ofChange fixCutsSpec)) fixCutsCard

/-- THE SECOND FORM's CARD OF 'paintboxlaw02.FixTexts'. -/
def fixTextsUptoCard : Claim7 := { stood := { row := fixTextsUptoRow, standIns := [], harness := (true, "d1667ba67b8912a0bc27f3b6693eddbaf9de8fb2414ee2191402028f04dd01db"), looks := false }, kinds := [], alts := [], laidByText := true, laidKinds := [.data, .data, .data, .data, .pinned], laidTests := true, laidLooks := .later }
def FixTextsUptoCardSaid : Prop := Claim7.holds Tryd.pinned (.plain (OpenSpec.upto fixTextsSpec)) fixTextsUptoCard

/-- THE SECOND FORM's CARD OF 'paintboxlaw02.FixNear'. -/
def fixNearUptoCard : Claim7 := { stood := { row := fixNearUptoRow, standIns := [], harness := (true, "d1667ba67b8912a0bc27f3b6693eddbaf9de8fb2414ee2191402028f04dd01db"), looks := false }, kinds := [], alts := [], laidByText := true, laidKinds := [.data, .data, .data, .data, .pinned], laidTests := true, laidLooks := .later }
def FixNearUptoCardSaid : Prop := Claim7.holds Tryd.pinned (.plain (OpenSpec.upto fixNearSpec)) fixNearUptoCard

/-- THE SECOND FORM's CARD OF 'paintboxlaw02.FixTurns'. -/
def fixTurnsUptoCard : Claim7 := { stood := { row := fixTurnsUptoRow, standIns := [], harness := (true, "d1667ba67b8912a0bc27f3b6693eddbaf9de8fb2414ee2191402028f04dd01db"), looks := false }, kinds := [], alts := [], laidByText := true, laidKinds := [.data, .data, .data, .data, .pinned], laidTests := true, laidLooks := .later }
def FixTurnsUptoCardSaid : Prop := Claim7.holds Tryd.pinned (.plain (OpenSpec.upto fixTurnsSpec)) fixTurnsUptoCard

/-- THE SECOND FORM's CARD OF 'paintboxlaw02.FixMuls'. -/
def fixMulsUptoCard : Claim7 := { stood := { row := fixMulsUptoRow, standIns := [], harness := (true, "d1667ba67b8912a0bc27f3b6693eddbaf9de8fb2414ee2191402028f04dd01db"), looks := false }, kinds := [], alts := [], laidByText := true, laidKinds := [.data, .data, .data, .data, .pinned], laidTests := true, laidLooks := .later }
def FixMulsUptoCardSaid : Prop := Claim7.holds Tryd.pinned (.plain (OpenSpec.upto fixMulsSpec)) fixMulsUptoCard

/-- THE SECOND FORM's CARD OF 'paintboxlaw02.FixBack'. -/
def fixBackUptoCard : Claim7 := { stood := { row := fixBackUptoRow, standIns := [], harness := (true, "d1667ba67b8912a0bc27f3b6693eddbaf9de8fb2414ee2191402028f04dd01db"), looks := false }, kinds := [], alts := [], laidByText := true, laidKinds := [.data, .data, .data, .data, .pinned], laidTests := true, laidLooks := .later }
def FixBackUptoCardSaid : Prop := Claim7.holds Tryd.pinned (.plain (OpenSpec.upto fixBackSpec)) fixBackUptoCard

/-- THE SECOND FORM's CARD OF 'paintboxlaw02.FixRises'. -/
def fixRisesUptoCard : Claim7 := { stood := { row := fixRisesUptoRow, standIns := [], harness := (true, "d1667ba67b8912a0bc27f3b6693eddbaf9de8fb2414ee2191402028f04dd01db"), looks := false }, kinds := [], alts := [], laidByText := true, laidKinds := [.data, .data, .data, .data, .pinned], laidTests := true, laidLooks := .later }
def FixRisesUptoCardSaid : Prop := Claim7.holds Tryd.pinned (.plain (OpenSpec.upto fixRisesSpec)) fixRisesUptoCard

/-- THE SECOND FORM's CARD OF 'paintboxlaw02.FixAdds'. -/
def fixAddsUptoCard : Claim7 := { stood := { row := fixAddsUptoRow, standIns := [], harness := (true, "d1667ba67b8912a0bc27f3b6693eddbaf9de8fb2414ee2191402028f04dd01db"), looks := false }, kinds := [], alts := [], laidByText := true, laidKinds := [.data, .data, .data, .data, .pinned], laidTests := true, laidLooks := .later }
def FixAddsUptoCardSaid : Prop := Claim7.holds Tryd.pinned (.plain (OpenSpec.upto fixAddsSpec)) fixAddsUptoCard

/-- THE SECOND FORM's CARD OF 'paintboxlaw02.FixCuts'. -/
def fixCutsUptoCard : Claim7 := { stood := { row := fixCutsUptoRow, standIns := [], harness := (true, "d1667ba67b8912a0bc27f3b6693eddbaf9de8fb2414ee2191402028f04dd01db"), looks := false }, kinds := [], alts := [], laidByText := true, laidKinds := [.data, .data, .data, .data, .pinned], laidTests := true, laidLooks := .later }
def FixCutsUptoCardSaid : Prop := Claim7.holds Tryd.pinned (.plain (OpenSpec.upto fixCutsSpec)) fixCutsUptoCard
end Rows
end Go.Proofs.YtjeaglhjbadadaaDoor
