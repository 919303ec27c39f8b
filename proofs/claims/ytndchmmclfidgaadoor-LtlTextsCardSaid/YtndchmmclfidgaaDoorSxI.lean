import Derived.Test.YtndchmmclfidgaaDoorProg
import Derived.Test.YtndchmmclfidgaaDoorSxF
set_option maxRecDepth 100000
namespace Go.Sx
open Go Go.Lg Go.Proofs

section
variable {gl : GL}
theorem c_ty71 : (C gl).ty 71 = some (tX 71) := by show tyP Tryd.prog 71 = _; kernel_rfl
theorem c_ty72 : (C gl).ty 72 = some (tX 72) := by show tyP Tryd.prog 72 = _; kernel_rfl
theorem sz71 : (tX 71).size = 1 := by kernel_rfl
theorem by71 : (tX 71).bytes = 8 := by kernel_rfl
theorem rd71 (cs : List AV) (k : Nat) : rdC (tX 71) cs k = cs.getD k .undef := rdC_one (by kernel_rfl) cs k
theorem ro71 (cs : List AV) (k : Nat) : rdOK (tX 71) cs k = (k + 1 ≤ cs.length) := rdOK_one (by kernel_rfl) sz71 cs k
theorem ze71 : ofV (tX 71).zero = .nilf := by kernel_rfl
theorem zs71 : (tX 71).zero.cells.size = 1 := by kernel_rfl
theorem sz72 : (tX 72).size = 1 := by kernel_rfl
theorem by72 : (tX 72).bytes = 24 := by kernel_rfl
theorem rd72 (cs : List AV) (k : Nat) : rdC (tX 72) cs k = cs.getD k .undef := rdC_one (by kernel_rfl) cs k
theorem ro72 (cs : List AV) (k : Nat) : rdOK (tX 72) cs k = (k + 1 ≤ cs.length) := rdOK_one (by kernel_rfl) sz72 cs k
theorem sl72 : slE (C gl) 72 = some (tX 71) := by kernel_rfl
theorem ar72 : arE (C gl) 72 = none := by kernel_rfl
theorem ze72 : ofV (tX 72).zero = .list true [] := by kernel_rfl
theorem zs72 : (tX 72).zero.cells.size = 1 := by kernel_rfl
end
attribute [go_sem] c_ty71 c_ty72 sz71 by71 rd71 ro71 ze71 zs71 sz72 by72 rd72 ro72 sl72 ar72 ze72 zs72
end Go.Sx
