import Derived.Test.YtndchmmclfidgaaDoorProg
import Derived.Test.YtndchmmclfidgaaDoorSxF
set_option maxRecDepth 100000
namespace Go.Sx
open Go Go.Lg Go.Proofs

section
variable {gl : GL}
theorem c_ty46 : (C gl).ty 46 = some (tX 46) := by show tyP Tryd.prog 46 = _; kernel_rfl
theorem sz46 : (tX 46).size = 1 := by kernel_rfl
theorem by46 : (tX 46).bytes = 24 := by kernel_rfl
theorem rd46 (cs : List AV) (k : Nat) : rdC (tX 46) cs k = cs.getD k .undef := rdC_one (by kernel_rfl) cs k
theorem ro46 (cs : List AV) (k : Nat) : rdOK (tX 46) cs k = (k + 1 ≤ cs.length) := rdOK_one (by kernel_rfl) sz46 cs k
theorem sl46 : slE (C gl) 46 = some (tX 27) := by kernel_rfl
theorem ar46 : arE (C gl) 46 = none := by kernel_rfl
theorem ze46 : ofV (tX 46).zero = .list true [] := by kernel_rfl
theorem zs46 : (tX 46).zero.cells.size = 1 := by kernel_rfl
end
attribute [go_sem] c_ty46 sz46 by46 rd46 ro46 sl46 ar46 ze46 zs46
end Go.Sx
