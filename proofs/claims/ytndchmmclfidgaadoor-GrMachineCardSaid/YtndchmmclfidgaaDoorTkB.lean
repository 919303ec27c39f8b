import Derived.Test.YtndchmmclfidgaaDoorTkA
import Derived.Test.YtndchmmclfidgaaDoorLgAw
set_option maxRecDepth 100000
set_option linter.unusedSimpArgs false
set_option linter.unusedVariables false
set_option linter.unnecessarySimpa false
namespace Go.Sx
open Go Go.Lg Go.Proofs
def lowI (b : Int) : Bool := decide (b ≥ 97) && decide (b ≤ 122)
def idI (b : Int) : Bool := lowI b || (decide (b ≥ 48) && decide (b ≤ 57))
def idC (c : UInt8) : Bool := idI (c.toNat : Int)
def idW (l : Bs) : Nat := (l.takeWhile idC).length
def iffT : Bs := [60, 45, 62]
def impT : Bs := [45, 62]
def tokLen (l : Bs) : Nat := if pre l iffT then 3 else if pre l impT then 2 else if lowI (byI l 0) then 1 + idW (l.drop 1) else 1
def toksF : Nat → Bs → List Bs
  | 0, _ => []
  | _ + 1, [] => []
  | n + 1, c :: r => if (c.toNat : Int) == 32 then toksF n r else (c :: r).take (tokLen (c :: r)) :: toksF n ((c :: r).drop (tokLen (c :: r)))
def toksS (s : Bs) : List Bs := toksF s.length s
section
variable {gl : GL}
end
end Go.Sx
