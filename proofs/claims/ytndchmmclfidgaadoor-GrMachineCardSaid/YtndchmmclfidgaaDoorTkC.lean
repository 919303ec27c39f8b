import Derived.Test.YtndchmmclfidgaaDoorTkB
set_option maxRecDepth 100000
set_option linter.unusedSimpArgs false
set_option linter.unusedVariables false
set_option linter.unnecessarySimpa false
namespace Go.Sx
open Go Go.Lg Go.Proofs
def signsL : List Bs := [trueT, falseT, [], [33], [38], [124], impT, iffT, [88], [70], [71], [85], [82], [87]]
def strengthL : List Int := [9, 9, 9, 6, 4, 3, 2, 1, 6, 6, 6, 5, 5, 5]
def rightL : List Bool := [false, false, false, false, false, false, true, false, false, false, false, true, true, true]
def signsA : List AV := signsL.map encT
def strengthA : List AV := strengthL.map (AV.int .i64)
def rightA : List AV := rightL.map AV.bool
def opS (s : Bs) : Int := if s == [] then -1 else idxF (fun t => s == t) signsL 0
section
variable {gl : GL}
def nowS (l : List Bs) : Bs := l.headD []
end
end Go.Sx
