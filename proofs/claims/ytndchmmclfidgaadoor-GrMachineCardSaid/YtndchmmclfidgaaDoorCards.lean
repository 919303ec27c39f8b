/-
  DERIVED. GIVEN WITH THE SEED: THE CARDS: each row of YtndchmmclfidgaaDoorRows.lean that lists a variable, with what it lists TIED to the program's text (the seventh form; the later family's looks); each row that meets fmt, with fmt's text TOLD by the authors' own Lean function (tested against real Go, not proved from fmt's source: count such statements apart). THE CARD IS WHAT COUNTS. Prove the row's statement (the work); the ties are given (YtndchmmclfidgaaDoorTie.lean); close each card by the builder's one call (the guide's Derived/Test/ToyasCard.lean, 'card_holds'). Laid BY PROGRAM, IN A SANDBOX (cutbox-door.mjs). By AI agents, Wed Nov 11 2026. No macro, syntax, notation, axiom, sorry.
-/
import Derived.Test.YtndchmmclfidgaaDoorRows
import GoSem.ClaimSeven
namespace Go.Proofs.YtndchmmclfidgaaDoor
namespace Rows

/-- THE TIED CARD OF 'lodesmanlaw23.GrWins'. -/
def grWinsCard : Claim7 := { stood := { row := grWinsRow, standIns := [], harness := (true, "8157b7f6b5233d5117948f1d01160ad5be98bfe6ad9238096ab8a67f4c2e4d10"), looks := true }, kinds := [], alts := [], laidByText := true, laidKinds := [.data], laidTests := true, laidLooks := .later }
def GrWinsCardSaid : Prop := Claim7.holds Tryd.pinned (.plain (OpenSpec.ofChange grWinsSpec)) grWinsCard

/-- THE TIED CARD OF 'lodesmanlaw23.GrLosing'. -/
def grLosingCard : Claim7 := { stood := { row := grLosingRow, standIns := [], harness := (true, "8157b7f6b5233d5117948f1d01160ad5be98bfe6ad9238096ab8a67f4c2e4d10"), looks := true }, kinds := [], alts := [], laidByText := true, laidKinds := [.data], laidTests := true, laidLooks := .later }
def GrLosingCardSaid : Prop := Claim7.holds Tryd.pinned (.plain (OpenSpec.ofChange grLosingSpec)) grLosingCard

/-- THE TIED CARD OF 'lodesmanlaw23.GrMonotone'. -/
def grMonotoneCard : Claim7 := { stood := { row := grMonotoneRow, standIns := [], harness := (true, "8157b7f6b5233d5117948f1d01160ad5be98bfe6ad9238096ab8a67f4c2e4d10"), looks := true }, kinds := [], alts := [], laidByText := true, laidKinds := [.data], laidTests := true, laidLooks := .later }
def GrMonotoneCardSaid : Prop := Claim7.holds Tryd.pinned (.plain (OpenSpec.ofChange grMonotoneSpec)) grMonotoneCard

/-- THE TIED CARD OF 'lodesmanlaw23.GrFacts'. -/
def grFactsCard : Claim7 := { stood := { row := grFactsRow, standIns := [], harness := (true, "8157b7f6b5233d5117948f1d01160ad5be98bfe6ad9238096ab8a67f4c2e4d10"), looks := true }, kinds := [], alts := [], laidByText := true, laidKinds := [.data], laidTests := true, laidLooks := .later }
def GrFactsCardSaid : Prop := Claim7.holds Tryd.pinned (.plain (OpenSpec.ofChange grFactsSpec)) grFactsCard

/-- THE TIED CARD OF 'lodesmanlaw23.GrMachine'. -/
def grMachineCard : Claim7 := { stood := { row := grMachineRow, standIns := [], harness := (true, "8157b7f6b5233d5117948f1d01160ad5be98bfe6ad9238096ab8a67f4c2e4d10"), looks := true }, kinds := [], alts := [], laidByText := true, laidKinds := [.data, .data], laidTests := true, laidLooks := .later }
def GrMachineCardSaid : Prop := Claim7.holds Tryd.pinned (.plain (OpenSpec.ofChange grMachineSpec)) grMachineCard

/-- THE TIED CARD OF 'lodesmanlaw02.LtlTexts'. -/
def ltlTextsCard : Claim7 := { stood := { row := ltlTextsRow, standIns := [], harness := (true, "8157b7f6b5233d5117948f1d01160ad5be98bfe6ad9238096ab8a67f4c2e4d10"), looks := true }, kinds := [], alts := [], laidByText := true, laidKinds := [.data, .data, .data, .data, .data, .pinned], laidTests := true, laidLooks := .later }
def LtlTextsCardSaid : Prop := Claim7.holds Tryd.pinned (.plain (OpenSpec.ofChange ltlTextsSpec)) ltlTextsCard

/-- THE TIED CARD OF 'lodesmanlaw02.LtlBack'. -/
def ltlBackCard : Claim7 := { stood := { row := ltlBackRow, standIns := [], harness := (true, "8157b7f6b5233d5117948f1d01160ad5be98bfe6ad9238096ab8a67f4c2e4d10"), looks := true }, kinds := [], alts := [], laidByText := true, laidKinds := [.data, .data, .data, .data, .data, .pinned], laidTests := true, laidLooks := .later }
def LtlBackCardSaid : Prop := Claim7.holds Tryd.pinned (.plain (OpenSpec.ofChange ltlBackSpec)) ltlBackCard

/-- THE TIED CARD OF 'lodesmanlaw02.LtlPlain'. -/
def ltlPlainCard : Claim7 := { stood := { row := ltlPlainRow, standIns := [], harness := (true, "8157b7f6b5233d5117948f1d01160ad5be98bfe6ad9238096ab8a67f4c2e4d10"), looks := true }, kinds := [], alts := [], laidByText := true, laidKinds := [.data, .data, .data, .data, .data, .pinned], laidTests := true, laidLooks := .later }
def LtlPlainCardSaid : Prop := Claim7.holds Tryd.pinned (.plain (OpenSpec.ofChange ltlPlainSpec)) ltlPlainCard

/-- THE TIED CARD OF 'lodesmanlaw02.LtlNormal'. -/
def ltlNormalCard : Claim7 := { stood := { row := ltlNormalRow, standIns := [], harness := (true, "8157b7f6b5233d5117948f1d01160ad5be98bfe6ad9238096ab8a67f4c2e4d10"), looks := true }, kinds := [], alts := [], laidByText := true, laidKinds := [.data, .data, .data, .data, .data, .pinned], laidTests := true, laidLooks := .later }
def LtlNormalCardSaid : Prop := Claim7.holds Tryd.pinned (.plain (OpenSpec.ofChange ltlNormalSpec)) ltlNormalCard

/-- THE TIED CARD OF 'lodesmanlaw02.LtlSizes'. -/
def ltlSizesCard : Claim7 := { stood := { row := ltlSizesRow, standIns := [], harness := (true, "8157b7f6b5233d5117948f1d01160ad5be98bfe6ad9238096ab8a67f4c2e4d10"), looks := true }, kinds := [], alts := [], laidByText := true, laidKinds := [.data, .data, .data, .data, .data, .pinned], laidTests := true, laidLooks := .later }
def LtlSizesCardSaid : Prop := Claim7.holds Tryd.pinned (.plain (OpenSpec.ofChange ltlSizesSpec)) ltlSizesCard

/-- THE TIED CARD OF 'lodesmanlaw04.RewriteSimple'. -/
def rewriteSimpleCard : Claim7 := { stood := { row := rewriteSimpleRow, standIns := [], harness := (true, "8157b7f6b5233d5117948f1d01160ad5be98bfe6ad9238096ab8a67f4c2e4d10"), looks := true }, kinds := [], alts := [], laidByText := true, laidKinds := [.data, .data, .data, .data, .data, .pinned], laidTests := true, laidLooks := .later }
def RewriteSimpleCardSaid : Prop := Claim7.holds Tryd.pinned (.plain (OpenSpec.ofChange rewriteSimpleSpec)) rewriteSimpleCard

/-- THE TIED CARD OF 'lodesmanlaw04.RewriteParts'. -/
def rewritePartsCard : Claim7 := { stood := { row := rewritePartsRow, standIns := [], harness := (true, "8157b7f6b5233d5117948f1d01160ad5be98bfe6ad9238096ab8a67f4c2e4d10"), looks := true }, kinds := [], alts := [], laidByText := true, laidKinds := [.data, .data, .data, .data, .data, .pinned], laidTests := true, laidLooks := .later }
def RewritePartsCardSaid : Prop := Claim7.holds Tryd.pinned (.plain (OpenSpec.ofChange rewritePartsSpec)) rewritePartsCard

/-- THE SECOND FORM's CARD OF 'lodesmanlaw23.GrWins'. -/
def grWinsUptoCard : Claim7 := { stood := { row := grWinsUptoRow, standIns := [], harness := (true, "8157b7f6b5233d5117948f1d01160ad5be98bfe6ad9238096ab8a67f4c2e4d10"), looks := true }, kinds := [], alts := [], laidByText := true, laidKinds := [.data], laidTests := true, laidLooks := .later }
def GrWinsUptoCardSaid : Prop := Claim7.holds Tryd.pinned (.plain (OpenSpec.upto grWinsSpec)) grWinsUptoCard

/-- THE SECOND FORM's CARD OF 'lodesmanlaw23.GrLosing'. -/
def grLosingUptoCard : Claim7 := { stood := { row := grLosingUptoRow, standIns := [], harness := (true, "8157b7f6b5233d5117948f1d01160ad5be98bfe6ad9238096ab8a67f4c2e4d10"), looks := true }, kinds := [], alts := [], laidByText := true, laidKinds := [.data], laidTests := true, laidLooks := .later }
def GrLosingUptoCardSaid : Prop := Claim7.holds Tryd.pinned (.plain (OpenSpec.upto grLosingSpec)) grLosingUptoCard

/-- THE SECOND FORM's CARD OF 'lodesmanlaw23.GrMonotone'. -/
def grMonotoneUptoCard : Claim7 := { stood := { row := grMonotoneUptoRow, standIns := [], harness := (true, "8157b7f6b5233d5117948f1d01160ad5be98bfe6ad9238096ab8a67f4c2e4d10"), looks := true }, kinds := [], alts := [], laidByText := true, laidKinds := [.data], laidTests := true, laidLooks := .later }
def GrMonotoneUptoCardSaid : Prop := Claim7.holds Tryd.pinned (.plain (OpenSpec.upto grMonotoneSpec)) grMonotoneUptoCard

/-- THE SECOND FORM's CARD OF 'lodesmanlaw23.GrFacts'. -/
def grFactsUptoCard : Claim7 := { stood := { row := grFactsUptoRow, standIns := [], harness := (true, "8157b7f6b5233d5117948f1d01160ad5be98bfe6ad9238096ab8a67f4c2e4d10"), looks := true }, kinds := [], alts := [], laidByText := true, laidKinds := [.data], laidTests := true, laidLooks := .later }
def GrFactsUptoCardSaid : Prop := Claim7.holds Tryd.pinned (.plain (OpenSpec.upto grFactsSpec)) grFactsUptoCard

/-- THE SECOND FORM's CARD OF 'lodesmanlaw23.GrMachine'. -/
def grMachineUptoCard : Claim7 := { stood := { row := grMachineUptoRow, standIns := [], harness := (true, "8157b7f6b5233d5117948f1d01160ad5be98bfe6ad9238096ab8a67f4c2e4d10"), looks := true }, kinds := [], alts := [], laidByText := true, laidKinds := [.data, .data], laidTests := true, laidLooks := .later }
def GrMachineUptoCardSaid : Prop := Claim7.holds Tryd.pinned (.plain (OpenSpec.upto grMachineSpec)) grMachineUptoCard

/-- THE SECOND FORM's CARD OF 'lodesmanlaw02.LtlTexts'. -/
def ltlTextsUptoCard : Claim7 := { stood := { row := ltlTextsUptoRow, standIns := [], harness := (true, "8157b7f6b5233d5117948f1d01160ad5be98bfe6ad9238096ab8a67f4c2e4d10"), looks := true }, kinds := [], alts := [], laidByText := true, laidKinds := [.data, .data, .data, .data, .data, .pinned], laidTests := true, laidLooks := .later }
def LtlTextsUptoCardSaid : Prop := Claim7.holds Tryd.pinned (.plain (OpenSpec.upto ltlTextsSpec)) ltlTextsUptoCard

/-- THE SECOND FORM's CARD OF 'lodesmanlaw02.LtlBack'. -/
def ltlBackUptoCard : Claim7 := { stood := { row := ltlBackUptoRow, standIns := [], harness := (true, "8157b7f6b5233d5117948f1d01160ad5be98bfe6ad9238096ab8a67f4c2e4d10"), looks := true }, kinds := [], alts := [], laidByText := true, laidKinds := [.data, .data, .data, .data, .data, .pinned], laidTests := true, laidLooks := .later }
def LtlBackUptoCardSaid : Prop := Claim7.holds Tryd.pinned (.plain (OpenSpec.upto ltlBackSpec)) ltlBackUptoCard

/-- THE SECOND FORM's CARD OF 'lodesmanlaw02.LtlPlain'. -/
def ltlPlainUptoCard : Claim7 := { stood := { row := ltlPlainUptoRow, standIns := [], harness := (true, "8157b7f6b5233d5117948f1d01160ad5be98bfe6ad9238096ab8a67f4c2e4d10"), looks := true }, kinds := [], alts := [], laidByText := true, laidKinds := [.data, .data, .data, .data, .data, .pinned], laidTests := true, laidLooks := .later }
def LtlPlainUptoCardSaid : Prop := Claim7.holds Tryd.pinned (.plain (OpenSpec.upto ltlPlainSpec)) ltlPlainUptoCard

/-- THE SECOND FORM's CARD OF 'lodesmanlaw02.LtlNormal'. -/
def ltlNormalUptoCard : Claim7 := { stood := { row := ltlNormalUptoRow, standIns := [], harness := (true, "8157b7f6b5233d5117948f1d01160ad5be98bfe6ad9238096ab8a67f4c2e4d10"), looks := true }, kinds := [], alts := [], laidByText := true, laidKinds := [.data, .data, .data, .data, .data, .pinned], laidTests := true, laidLooks := .later }
def LtlNormalUptoCardSaid : Prop := Claim7.holds Tryd.pinned (.plain (OpenSpec.upto ltlNormalSpec)) ltlNormalUptoCard

/-- THE SECOND FORM's CARD OF 'lodesmanlaw02.LtlSizes'. -/
def ltlSizesUptoCard : Claim7 := { stood := { row := ltlSizesUptoRow, standIns := [], harness := (true, "8157b7f6b5233d5117948f1d01160ad5be98bfe6ad9238096ab8a67f4c2e4d10"), looks := true }, kinds := [], alts := [], laidByText := true, laidKinds := [.data, .data, .data, .data, .data, .pinned], laidTests := true, laidLooks := .later }
def LtlSizesUptoCardSaid : Prop := Claim7.holds Tryd.pinned (.plain (OpenSpec.upto ltlSizesSpec)) ltlSizesUptoCard

/-- THE SECOND FORM's CARD OF 'lodesmanlaw04.RewriteSimple'. -/
def rewriteSimpleUptoCard : Claim7 := { stood := { row := rewriteSimpleUptoRow, standIns := [], harness := (true, "8157b7f6b5233d5117948f1d01160ad5be98bfe6ad9238096ab8a67f4c2e4d10"), looks := true }, kinds := [], alts := [], laidByText := true, laidKinds := [.data, .data, .data, .data, .data, .pinned], laidTests := true, laidLooks := .later }
def RewriteSimpleUptoCardSaid : Prop := Claim7.holds Tryd.pinned (.plain (OpenSpec.upto rewriteSimpleSpec)) rewriteSimpleUptoCard

/-- THE SECOND FORM's CARD OF 'lodesmanlaw04.RewriteParts'. -/
def rewritePartsUptoCard : Claim7 := { stood := { row := rewritePartsUptoRow, standIns := [], harness := (true, "8157b7f6b5233d5117948f1d01160ad5be98bfe6ad9238096ab8a67f4c2e4d10"), looks := true }, kinds := [], alts := [], laidByText := true, laidKinds := [.data, .data, .data, .data, .data, .pinned], laidTests := true, laidLooks := .later }
def RewritePartsUptoCardSaid : Prop := Claim7.holds Tryd.pinned (.plain (OpenSpec.upto rewritePartsSpec)) rewritePartsUptoCard
end Rows
end Go.Proofs.YtndchmmclfidgaaDoor
