import Derived.Test.YtlhdjjnjhpfgoaaDoorProg
import Derived.Test.YtlhdjjnjhpfgoaaDoorQSxF
import Derived.Test.YtlhdjjnjhpfgoaaDoorQSxH
import Derived.Test.YtlhdjjnjhpfgoaaDoorQSxI
import Derived.Test.YtlhdjjnjhpfgoaaDoorQSxJ
set_option maxRecDepth 100000
namespace Go.Sx
open Go Go.Lg Go.Proofs

section
variable {gl : GL}
theorem c_ty44 : (C gl).ty 44 = some (tX 44) := by show tyP Tryd.prog 44 = _; kernel_rfl
theorem c_ty62 : (C gl).ty 62 = some (tX 62) := by show tyP Tryd.prog 62 = _; kernel_rfl
theorem sz44 : (tX 44).size = 1 := by kernel_rfl
theorem by44 : (tX 44).bytes = 8 := by kernel_rfl
theorem rd44 (cs : List AV) (k : Nat) : rdC (tX 44) cs k = cs.getD k .undef := rdC_one (by kernel_rfl) cs k
theorem ro44 (cs : List AV) (k : Nat) : rdOK (tX 44) cs k = (k + 1 ≤ cs.length) := rdOK_one (by kernel_rfl) sz44 cs k
theorem ze44 : ofV (tX 44).zero = .nilf := by kernel_rfl
theorem zs44 : (tX 44).zero.cells.size = 1 := by kernel_rfl
theorem sz62 : (tX 62).size = 1 := by kernel_rfl
theorem by62 : (tX 62).bytes = 24 := by kernel_rfl
theorem rd62 (cs : List AV) (k : Nat) : rdC (tX 62) cs k = cs.getD k .undef := rdC_one (by kernel_rfl) cs k
theorem ro62 (cs : List AV) (k : Nat) : rdOK (tX 62) cs k = (k + 1 ≤ cs.length) := rdOK_one (by kernel_rfl) sz62 cs k
theorem sl62 : slE (C gl) 62 = some (tX 34) := by kernel_rfl
theorem ar62 : arE (C gl) 62 = none := by kernel_rfl
theorem ze62 : ofV (tX 62).zero = .list true [] := by kernel_rfl
theorem zs62 : (tX 62).zero.cells.size = 1 := by kernel_rfl
end
attribute [go_sem] c_ty44 c_ty62 sz44 by44 rd44 ro44 ze44 zs44 sz62 by62 rd62 ro62 sl62 ar62 ze62 zs62
end Go.Sx
