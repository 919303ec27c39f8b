import Derived.Test.YtlhdjjnjhpfgoaaDoorQBdB
set_option maxRecDepth 100000
set_option linter.unusedSimpArgs false
set_option linter.unusedVariables false
set_option linter.unnecessarySimpa false
namespace Go.Sx
open Go Go.Lg Go.Proofs Go.ChangeShapes Go.WideShapes Go.RowKit
open Go.Proofs.YtlhdjjnjhpfgoaaDoor

/-! ## Lists, as they come in -/
section
variable {H : Type} {enc : TypeId × Value → H} {W : World} {spare : Nat → Bool} {held : Bool}
def TxB (s : Bs) : Prop := s.length < 100000000000000000
instance : Inhabited Bs := ⟨[]⟩
def encNs (ns : List Bs) : AV := .list false (ns.map encT)
def NsB (ns : List Bs) : Prop := ns.length < 4611686018427387904 ∧ ∀ s ∈ ns, s.length < 100000000000000000
end
end Go.Sx
