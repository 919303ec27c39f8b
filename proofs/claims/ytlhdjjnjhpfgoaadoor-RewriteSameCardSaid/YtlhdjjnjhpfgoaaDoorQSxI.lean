import Derived.Test.YtlhdjjnjhpfgoaaDoorProg
import Derived.Test.YtlhdjjnjhpfgoaaDoorQSxF
import Derived.Test.YtlhdjjnjhpfgoaaDoorQSxH
set_option maxRecDepth 100000
namespace Go.Sx
open Go Go.Lg Go.Proofs

section
variable {gl : GL}
theorem c_ty29 : (C gl).ty 29 = some (tX 29) := by show tyP Tryd.prog 29 = _; kernel_rfl
theorem c_ty38 : (C gl).ty 38 = some (tX 38) := by show tyP Tryd.prog 38 = _; kernel_rfl
theorem sz29 : (tX 29).size = 1 := by kernel_rfl
theorem by29 : (tX 29).bytes = 8 := by kernel_rfl
theorem rd29 (cs : List AV) (k : Nat) : rdC (tX 29) cs k = cs.getD k .undef := rdC_one (by kernel_rfl) cs k
theorem ro29 (cs : List AV) (k : Nat) : rdOK (tX 29) cs k = (k + 1 ≤ cs.length) := rdOK_one (by kernel_rfl) sz29 cs k
theorem ze29 : ofV (tX 29).zero = .nilf := by kernel_rfl
theorem zs29 : (tX 29).zero.cells.size = 1 := by kernel_rfl
theorem sz38 : (tX 38).size = 1 := by kernel_rfl
theorem by38 : (tX 38).bytes = 24 := by kernel_rfl
theorem rd38 (cs : List AV) (k : Nat) : rdC (tX 38) cs k = cs.getD k .undef := rdC_one (by kernel_rfl) cs k
theorem ro38 (cs : List AV) (k : Nat) : rdOK (tX 38) cs k = (k + 1 ≤ cs.length) := rdOK_one (by kernel_rfl) sz38 cs k
theorem sl38 : slE (C gl) 38 = some (tX 29) := by kernel_rfl
theorem ar38 : arE (C gl) 38 = none := by kernel_rfl
theorem ze38 : ofV (tX 38).zero = .list true [] := by kernel_rfl
theorem zs38 : (tX 38).zero.cells.size = 1 := by kernel_rfl
end
attribute [go_sem] c_ty29 c_ty38 sz29 by29 rd29 ro29 ze29 zs29 sz38 by38 rd38 ro38 sl38 ar38 ze38 zs38
end Go.Sx
