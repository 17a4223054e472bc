/-
  DERIVED. GIVEN WITH THE SEED: THE CARDS: each row of YtnmfjjfnkhcpkaaGreatDoorRows.lean that lists a variable, with what it lists TIED to the program's text (the seventh form; the later family's looks); each row that meets fmt, with fmt's text TOLD by the authors' own Lean function (tested against real Go, not proved from fmt's source: count such statements apart). THE CARD IS WHAT COUNTS. Prove the row's statement (the work); the ties are given (YtnmfjjfnkhcpkaaGreatDoorTie.lean); close each card by the builder's one call (the guide's Derived/Test/ToyasCard.lean, 'card_holds'). Laid BY PROGRAM, IN A SANDBOX (cutbox-door.mjs). By AI agents, Wed Nov 11 2026. No macro, syntax, notation, axiom, sorry.
-/
import Derived.Test.YtnmfjjfnkhcpkaaGreatDoorRows
import GoSem.ClaimSeven
namespace Go.Proofs.YtnmfjjfnkhcpkaaGreatDoor
namespace Rows

/-- THE TIED CARD OF 'potsherdlaw05.AlgebraEvals'. -/
def algebraEvalsCard : Claim7 := { stood := { row := algebraEvalsRow, standIns := [], harness := (true, "13cdd6addac28e5f16f44b72a9f1e9e1deee62e8aae6d390ee21d03d9d1c6b4f"), looks := true }, kinds := [], alts := [], laidByText := true, laidKinds := [.data, .data, .data, .data, .sentinel, .sentinel, .listed, .data, .pinned], laidTests := true, laidLooks := .later }
def AlgebraEvalsCardSaid : Prop := Claim7.holds Tryz.pinned (.plain (OpenSpec.ofChange algebraEvalsSpec)) algebraEvalsCard

/-- THE TIED CARD OF 'potsherdlaw05.AlgebraRuns'. -/
def algebraRunsCard : Claim7 := { stood := { row := algebraRunsRow, standIns := [], harness := (true, "13cdd6addac28e5f16f44b72a9f1e9e1deee62e8aae6d390ee21d03d9d1c6b4f"), looks := true }, kinds := [], alts := [], laidByText := true, laidKinds := [.data, .data, .data, .data, .sentinel, .sentinel, .listed, .data, .pinned], laidTests := true, laidLooks := .later }
def AlgebraRunsCardSaid : Prop := Claim7.holds Tryz.pinned (.plain (OpenSpec.ofChange algebraRunsSpec)) algebraRunsCard

/-- THE TIED CARD OF 'potsherdlaw05.AlgebraKinds'. -/
def algebraKindsCard : Claim7 := { stood := { row := algebraKindsRow, standIns := [], harness := (true, "13cdd6addac28e5f16f44b72a9f1e9e1deee62e8aae6d390ee21d03d9d1c6b4f"), looks := true }, kinds := [], alts := [], laidByText := true, laidKinds := [.data, .data, .data, .data, .sentinel, .sentinel, .listed, .data, .pinned], laidTests := true, laidLooks := .later }
def AlgebraKindsCardSaid : Prop := Claim7.holds Tryz.pinned (.plain (OpenSpec.ofChange algebraKindsSpec)) algebraKindsCard

/-- THE TIED CARD OF 'potsherdlaw05.AlgebraBags'. -/
def algebraBagsCard : Claim7 := { stood := { row := algebraBagsRow, standIns := [], harness := (true, "13cdd6addac28e5f16f44b72a9f1e9e1deee62e8aae6d390ee21d03d9d1c6b4f"), looks := true }, kinds := [], alts := [], laidByText := true, laidKinds := [.data, .data, .data, .data, .sentinel, .sentinel, .listed, .data, .pinned], laidTests := true, laidLooks := .later }
def AlgebraBagsCardSaid : Prop := Claim7.holds Tryz.pinned (.plain (OpenSpec.ofChange algebraBagsSpec)) algebraBagsCard

/-- THE TIED CARD OF 'potsherdlaw05.AlgebraLogic'. -/
def algebraLogicCard : Claim7 := { stood := { row := algebraLogicRow, standIns := [], harness := (true, "13cdd6addac28e5f16f44b72a9f1e9e1deee62e8aae6d390ee21d03d9d1c6b4f"), looks := true }, kinds := [], alts := [], laidByText := true, laidKinds := [.data, .data, .data, .data, .sentinel, .sentinel, .listed, .data, .pinned], laidTests := true, laidLooks := .later }
def AlgebraLogicCardSaid : Prop := Claim7.holds Tryz.pinned (.plain (OpenSpec.ofChange algebraLogicSpec)) algebraLogicCard

/-- THE TIED CARD OF 'potsherdlaw05.AlgebraWhere'. -/
def algebraWhereCard : Claim7 := { stood := { row := algebraWhereRow, standIns := [], harness := (true, "13cdd6addac28e5f16f44b72a9f1e9e1deee62e8aae6d390ee21d03d9d1c6b4f"), looks := true }, kinds := [], alts := [], laidByText := true, laidKinds := [.data, .data, .data, .data, .sentinel, .sentinel, .listed, .data, .pinned], laidTests := true, laidLooks := .later }
def AlgebraWhereCardSaid : Prop := Claim7.holds Tryz.pinned (.plain (OpenSpec.ofChange algebraWhereSpec)) algebraWhereCard

/-- THE TIED CARD OF 'potsherdlaw05.AlgebraBest'. -/
def algebraBestCard : Claim7 := { stood := { row := algebraBestRow, standIns := [], harness := (true, "13cdd6addac28e5f16f44b72a9f1e9e1deee62e8aae6d390ee21d03d9d1c6b4f"), looks := true }, kinds := [], alts := [], laidByText := true, laidKinds := [.data, .data, .data, .data, .sentinel, .sentinel, .listed, .data, .pinned], laidTests := true, laidLooks := .later }
def AlgebraBestCardSaid : Prop := Claim7.holds Tryz.pinned (.plain (OpenSpec.ofChange algebraBestSpec)) algebraBestCard

/-- THE TIED CARD OF 'potsherdlaw05.AlgebraParts'. -/
def algebraPartsCard : Claim7 := { stood := { row := algebraPartsRow, standIns := [], harness := (true, "13cdd6addac28e5f16f44b72a9f1e9e1deee62e8aae6d390ee21d03d9d1c6b4f"), looks := true }, kinds := [], alts := [], laidByText := true, laidKinds := [.data, .data, .data, .data, .sentinel, .sentinel, .listed, .data, .pinned], laidTests := true, laidLooks := .later }
def AlgebraPartsCardSaid : Prop := Claim7.holds Tryz.pinned (.plain (OpenSpec.ofChange algebraPartsSpec)) algebraPartsCard

/-- THE TIED CARD OF 'potsherdlaw05.AlgebraBoth'. -/
def algebraBothCard : Claim7 := { stood := { row := algebraBothRow, standIns := [], harness := (true, "13cdd6addac28e5f16f44b72a9f1e9e1deee62e8aae6d390ee21d03d9d1c6b4f"), looks := true }, kinds := [], alts := [], laidByText := true, laidKinds := [.data, .data, .data, .data, .sentinel, .sentinel, .listed, .data, .pinned], laidTests := true, laidLooks := .later }
def AlgebraBothCardSaid : Prop := Claim7.holds Tryz.pinned (.plain (OpenSpec.ofChange algebraBothSpec)) algebraBothCard

/-- THE SECOND FORM's CARD OF 'potsherdlaw05.AlgebraEvals'. -/
def algebraEvalsUptoCard : Claim7 := { stood := { row := algebraEvalsUptoRow, standIns := [], harness := (true, "13cdd6addac28e5f16f44b72a9f1e9e1deee62e8aae6d390ee21d03d9d1c6b4f"), looks := true }, kinds := [], alts := [], laidByText := true, laidKinds := [.data, .data, .data, .data, .sentinel, .sentinel, .listed, .data, .pinned], laidTests := true, laidLooks := .later }
def AlgebraEvalsUptoCardSaid : Prop := Claim7.holds Tryz.pinned (.plain (OpenSpec.upto algebraEvalsSpec)) algebraEvalsUptoCard

/-- THE SECOND FORM's CARD OF 'potsherdlaw05.AlgebraRuns'. -/
def algebraRunsUptoCard : Claim7 := { stood := { row := algebraRunsUptoRow, standIns := [], harness := (true, "13cdd6addac28e5f16f44b72a9f1e9e1deee62e8aae6d390ee21d03d9d1c6b4f"), looks := true }, kinds := [], alts := [], laidByText := true, laidKinds := [.data, .data, .data, .data, .sentinel, .sentinel, .listed, .data, .pinned], laidTests := true, laidLooks := .later }
def AlgebraRunsUptoCardSaid : Prop := Claim7.holds Tryz.pinned (.plain (OpenSpec.upto algebraRunsSpec)) algebraRunsUptoCard

/-- THE SECOND FORM's CARD OF 'potsherdlaw05.AlgebraKinds'. -/
def algebraKindsUptoCard : Claim7 := { stood := { row := algebraKindsUptoRow, standIns := [], harness := (true, "13cdd6addac28e5f16f44b72a9f1e9e1deee62e8aae6d390ee21d03d9d1c6b4f"), looks := true }, kinds := [], alts := [], laidByText := true, laidKinds := [.data, .data, .data, .data, .sentinel, .sentinel, .listed, .data, .pinned], laidTests := true, laidLooks := .later }
def AlgebraKindsUptoCardSaid : Prop := Claim7.holds Tryz.pinned (.plain (OpenSpec.upto algebraKindsSpec)) algebraKindsUptoCard

/-- THE SECOND FORM's CARD OF 'potsherdlaw05.AlgebraBags'. -/
def algebraBagsUptoCard : Claim7 := { stood := { row := algebraBagsUptoRow, standIns := [], harness := (true, "13cdd6addac28e5f16f44b72a9f1e9e1deee62e8aae6d390ee21d03d9d1c6b4f"), looks := true }, kinds := [], alts := [], laidByText := true, laidKinds := [.data, .data, .data, .data, .sentinel, .sentinel, .listed, .data, .pinned], laidTests := true, laidLooks := .later }
def AlgebraBagsUptoCardSaid : Prop := Claim7.holds Tryz.pinned (.plain (OpenSpec.upto algebraBagsSpec)) algebraBagsUptoCard

/-- THE SECOND FORM's CARD OF 'potsherdlaw05.AlgebraLogic'. -/
def algebraLogicUptoCard : Claim7 := { stood := { row := algebraLogicUptoRow, standIns := [], harness := (true, "13cdd6addac28e5f16f44b72a9f1e9e1deee62e8aae6d390ee21d03d9d1c6b4f"), looks := true }, kinds := [], alts := [], laidByText := true, laidKinds := [.data, .data, .data, .data, .sentinel, .sentinel, .listed, .data, .pinned], laidTests := true, laidLooks := .later }
def AlgebraLogicUptoCardSaid : Prop := Claim7.holds Tryz.pinned (.plain (OpenSpec.upto algebraLogicSpec)) algebraLogicUptoCard

/-- THE SECOND FORM's CARD OF 'potsherdlaw05.AlgebraWhere'. -/
def algebraWhereUptoCard : Claim7 := { stood := { row := algebraWhereUptoRow, standIns := [], harness := (true, "13cdd6addac28e5f16f44b72a9f1e9e1deee62e8aae6d390ee21d03d9d1c6b4f"), looks := true }, kinds := [], alts := [], laidByText := true, laidKinds := [.data, .data, .data, .data, .sentinel, .sentinel, .listed, .data, .pinned], laidTests := true, laidLooks := .later }
def AlgebraWhereUptoCardSaid : Prop := Claim7.holds Tryz.pinned (.plain (OpenSpec.upto algebraWhereSpec)) algebraWhereUptoCard

/-- THE SECOND FORM's CARD OF 'potsherdlaw05.AlgebraBest'. -/
def algebraBestUptoCard : Claim7 := { stood := { row := algebraBestUptoRow, standIns := [], harness := (true, "13cdd6addac28e5f16f44b72a9f1e9e1deee62e8aae6d390ee21d03d9d1c6b4f"), looks := true }, kinds := [], alts := [], laidByText := true, laidKinds := [.data, .data, .data, .data, .sentinel, .sentinel, .listed, .data, .pinned], laidTests := true, laidLooks := .later }
def AlgebraBestUptoCardSaid : Prop := Claim7.holds Tryz.pinned (.plain (OpenSpec.upto algebraBestSpec)) algebraBestUptoCard

/-- THE SECOND FORM's CARD OF 'potsherdlaw05.AlgebraParts'. -/
def algebraPartsUptoCard : Claim7 := { stood := { row := algebraPartsUptoRow, standIns := [], harness := (true, "13cdd6addac28e5f16f44b72a9f1e9e1deee62e8aae6d390ee21d03d9d1c6b4f"), looks := true }, kinds := [], alts := [], laidByText := true, laidKinds := [.data, .data, .data, .data, .sentinel, .sentinel, .listed, .data, .pinned], laidTests := true, laidLooks := .later }
def AlgebraPartsUptoCardSaid : Prop := Claim7.holds Tryz.pinned (.plain (OpenSpec.upto algebraPartsSpec)) algebraPartsUptoCard

/-- THE SECOND FORM's CARD OF 'potsherdlaw05.AlgebraBoth'. -/
def algebraBothUptoCard : Claim7 := { stood := { row := algebraBothUptoRow, standIns := [], harness := (true, "13cdd6addac28e5f16f44b72a9f1e9e1deee62e8aae6d390ee21d03d9d1c6b4f"), looks := true }, kinds := [], alts := [], laidByText := true, laidKinds := [.data, .data, .data, .data, .sentinel, .sentinel, .listed, .data, .pinned], laidTests := true, laidLooks := .later }
def AlgebraBothUptoCardSaid : Prop := Claim7.holds Tryz.pinned (.plain (OpenSpec.upto algebraBothSpec)) algebraBothUptoCard
end Rows
end Go.Proofs.YtnmfjjfnkhcpkaaGreatDoor
