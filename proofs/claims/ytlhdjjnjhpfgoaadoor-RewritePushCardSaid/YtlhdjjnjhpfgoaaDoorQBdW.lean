import Derived.Test.YtlhdjjnjhpfgoaaDoorQBdC
import Derived.Test.YtlhdjjnjhpfgoaaDoorQTsE
set_option maxRecDepth 100000
set_option linter.unusedSimpArgs false
set_option linter.unusedVariables false
set_option linter.unnecessarySimpa false
namespace Go.Sx
open Go Go.Lg Go.Proofs Go.ChangeShapes Go.WideShapes Go.RowKit
/-! ## Words, as they come in -/
def I63 (n : Int) : Prop := n < 9223372036854775808
def encW2 (p : List Int × List Int) : AV := encW p.1 p.2
/-- Lengths as they come in. -/
def WB (s l : List Int) : Prop := s.length < 2305843009213693952 ∧ l.length < 2305843009213693952
def WB2 (p : List Int × List Int) : Prop := WB p.1 p.2
section
variable {H : Type} {enc : TypeId × Value → H} {W : World} {spare : Nat → Bool} {held : Bool}
end
end Go.Sx
