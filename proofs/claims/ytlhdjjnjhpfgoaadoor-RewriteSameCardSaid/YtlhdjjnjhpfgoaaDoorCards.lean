/-
  DERIVED. GIVEN WITH THE SEED: THE CARDS: each row of YtlhdjjnjhpfgoaaDoorRows.lean that lists a variable, with what it lists TIED to the program's text (the seventh form; the later family's looks); each row that meets fmt, with fmt's text TOLD by the authors' own Lean function (tested against real Go, not proved from fmt's source: count such statements apart). THE CARD IS WHAT COUNTS. Prove the row's statement (the work); the ties are given (YtlhdjjnjhpfgoaaDoorTie.lean); close each card by the builder's one call (the guide's Derived/Test/ToyasCard.lean, 'card_holds'). Laid BY PROGRAM, IN A SANDBOX (cutbox-door.mjs). By AI agents, Wed Nov 11 2026. No macro, syntax, notation, axiom, sorry.
-/
import Derived.Test.YtlhdjjnjhpfgoaaDoorRows
import GoSem.ClaimSeven
namespace Go.Proofs.YtlhdjjnjhpfgoaaDoor
namespace Rows

/-- THE TIED CARD OF 'lodesmanlaw04.RewritePush'. -/
def rewritePushCard : Claim7 := { stood := { row := rewritePushRow, standIns := [], harness := (true, "96453a6c2dfbf07e901721778167fb6b9a8bfd087edbb5ff70918f247d0dcb33"), looks := true }, kinds := [], alts := [], laidByText := true, laidKinds := [.data, .data, .data, .data, .data, .pinned], laidTests := true, laidLooks := .later }
def RewritePushCardSaid : Prop := Claim7.holds Tryd.pinned (.plain (OpenSpec.ofChange rewritePushSpec)) rewritePushCard

/-- THE TIED CARD OF 'lodesmanlaw04.RewriteSame'. -/
def rewriteSameCard : Claim7 := { stood := { row := rewriteSameRow, standIns := [], harness := (true, "96453a6c2dfbf07e901721778167fb6b9a8bfd087edbb5ff70918f247d0dcb33"), looks := true }, kinds := [], alts := [], laidByText := true, laidKinds := [.data, .data, .data, .data, .data, .pinned], laidTests := true, laidLooks := .later }
def RewriteSameCardSaid : Prop := Claim7.holds Tryd.pinned (.plain (OpenSpec.ofChange rewriteSameSpec)) rewriteSameCard

/-- THE SECOND FORM's CARD OF 'lodesmanlaw04.RewritePush'. -/
def rewritePushUptoCard : Claim7 := { stood := { row := rewritePushUptoRow, standIns := [], harness := (true, "96453a6c2dfbf07e901721778167fb6b9a8bfd087edbb5ff70918f247d0dcb33"), looks := true }, kinds := [], alts := [], laidByText := true, laidKinds := [.data, .data, .data, .data, .data, .pinned], laidTests := true, laidLooks := .later }
def RewritePushUptoCardSaid : Prop := Claim7.holds Tryd.pinned (.plain (OpenSpec.upto rewritePushSpec)) rewritePushUptoCard

/-- THE SECOND FORM's CARD OF 'lodesmanlaw04.RewriteSame'. -/
def rewriteSameUptoCard : Claim7 := { stood := { row := rewriteSameUptoRow, standIns := [], harness := (true, "96453a6c2dfbf07e901721778167fb6b9a8bfd087edbb5ff70918f247d0dcb33"), looks := true }, kinds := [], alts := [], laidByText := true, laidKinds := [.data, .data, .data, .data, .data, .pinned], laidTests := true, laidLooks := .later }
def RewriteSameUptoCardSaid : Prop := Claim7.holds Tryd.pinned (.plain (OpenSpec.upto rewriteSameSpec)) rewriteSameUptoCard
end Rows
end Go.Proofs.YtlhdjjnjhpfgoaaDoor
