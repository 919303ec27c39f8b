import Derived.Test.YtndchmmclfidgaaDoorTkI
set_option maxRecDepth 100000
set_option linter.unusedSimpArgs false
set_option linter.unusedVariables false
set_option linter.unnecessarySimpa false
namespace Go.Sx
open Go Go.Lg Go.Proofs
/-! ## Normal forms are normal -/
def plainW (o : Int) (l : List Fm) : Bool := !(o == 6 || (o == 7 || (o == 3 && (!((l.length : Int) == 1) || !((l.map Fm.op).getD 0 0 == 2)))))
mutual
def plW : Fm → Bool
  | .mk o v l => plainW o l && plWL l
def plWL : List Fm → Bool
  | [] => true
  | f :: l => plW f && plWL l
end
def NF (n : Int) (f : Fm) : Prop := ∀ yes : Bool, plW (formF yes f) = true ∧ (nodesF (formF yes f)).all (okNode n) = true ∧ formF true (formF yes f) = formF yes f
set_option maxHeartbeats 4000000
/-! ### How many nodes they have -/
def capd (x y : Int) : Prop := (61 < x ∧ y = 61) ∨ (x ≤ 61 ∧ y = x)
def CN (f : Fm) : Prop := capd ((nodesF (formF true f)).length : Int) (cntF f).1 ∧ capd ((nodesF (formF false f)).length : Int) (cntF f).2
end Go.Sx
