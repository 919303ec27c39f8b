import Derived.Test.YtlhdjjnjhpfgoaaDoorQTkH
set_option maxRecDepth 100000
set_option linter.unusedSimpArgs false
set_option linter.unusedVariables false
set_option linter.unnecessarySimpa false
namespace Go.Sx
open Go Go.Lg Go.Proofs

/-! ## The example of the law -/
def nsA : List Bs := [[114], [103]]
def nsB : List Bs := [[112], [113]]
def txA : Bs := [40, 71, 32, 40, 114, 32, 45, 62, 32, 88, 32, 103, 41, 41, 32, 38, 32, 40, 40, 70, 32, 33, 114, 41, 32, 85, 32, 103, 41]
def txB : Bs := [112, 32, 87, 32, 113]
def fmA : Fm := .mk 4 0 [.mk 10 0 [.mk 6 0 [.mk 2 0 [], .mk 8 0 [.mk 2 1 []]]], .mk 11 0 [.mk 9 0 [.mk 3 0 [.mk 2 0 []]], .mk 2 1 []]]
def fmB : Fm := .mk 13 0 [.mk 2 0 [], .mk 2 1 []]
def fmC : Fm := .mk 11 0 [.mk 4 0 [.mk 2 0 [], .mk 3 0 [.mk 2 1 []]], .mk 4 0 [.mk 3 0 [.mk 2 0 []], .mk 3 0 [.mk 2 1 []]]]
def txC : Bs := [71, 32, 40, 114, 32, 45, 62, 32, 88, 32, 103, 41, 32, 38, 32, 70, 32, 33, 114, 32, 85, 32, 103]
def txD : Bs := [40, 112, 32, 38, 32, 33, 113, 41, 32, 85, 32, 40, 33, 112, 32, 38, 32, 33, 113, 41]
theorem ex2 : namedS nsB = 0 := by kernel_rfl
section
variable {gl : GL}
end
end Go.Sx
