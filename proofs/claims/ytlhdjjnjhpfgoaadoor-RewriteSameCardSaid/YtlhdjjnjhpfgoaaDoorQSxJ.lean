import Derived.Test.YtlhdjjnjhpfgoaaDoorProg
import Derived.Test.YtlhdjjnjhpfgoaaDoorQSxF
import Derived.Test.YtlhdjjnjhpfgoaaDoorQSxH
import Derived.Test.YtlhdjjnjhpfgoaaDoorQSxI
set_option maxRecDepth 100000
namespace Go.Sx
open Go Go.Lg Go.Proofs

section
variable {gl : GL}
theorem c_ty21 : (C gl).ty 21 = some (tX 21) := by show tyP Tryd.prog 21 = _; kernel_rfl
theorem c_ty32 : (C gl).ty 32 = some (tX 32) := by show tyP Tryd.prog 32 = _; kernel_rfl
theorem c_ty34 : (C gl).ty 34 = some (tX 34) := by show tyP Tryd.prog 34 = _; kernel_rfl
theorem c_ty43 : (C gl).ty 43 = some (tX 43) := by show tyP Tryd.prog 43 = _; kernel_rfl
theorem c_ty45 : (C gl).ty 45 = some (tX 45) := by show tyP Tryd.prog 45 = _; kernel_rfl
theorem c_ty49 : (C gl).ty 49 = some (tX 49) := by show tyP Tryd.prog 49 = _; kernel_rfl
theorem c_ty80 : (C gl).ty 80 = some (tX 80) := by show tyP Tryd.prog 80 = _; kernel_rfl
theorem c_ty81 : (C gl).ty 81 = some (tX 81) := by show tyP Tryd.prog 81 = _; kernel_rfl
theorem sz21 : (tX 21).size = 1 := by kernel_rfl
theorem by21 : (tX 21).bytes = 4 := by kernel_rfl
theorem rd21 (cs : List AV) (k : Nat) : rdC (tX 21) cs k = cs.getD k .undef := rdC_one (by kernel_rfl) cs k
theorem ro21 (cs : List AV) (k : Nat) : rdOK (tX 21) cs k = (k + 1 ≤ cs.length) := rdOK_one (by kernel_rfl) sz21 cs k
theorem in21 : intT (C gl) 21 = some Go.IntKind.i32 := by kernel_rfl
theorem ze21 : ofV (tX 21).zero = .int Go.IntKind.i32 0 := by kernel_rfl
theorem zs21 : (tX 21).zero.cells.size = 1 := by kernel_rfl
theorem sz32 : (tX 32).size = 1 := by kernel_rfl
theorem by32 : (tX 32).bytes = 24 := by kernel_rfl
theorem rd32 (cs : List AV) (k : Nat) : rdC (tX 32) cs k = cs.getD k .undef := rdC_one (by kernel_rfl) cs k
theorem ro32 (cs : List AV) (k : Nat) : rdOK (tX 32) cs k = (k + 1 ≤ cs.length) := rdOK_one (by kernel_rfl) sz32 cs k
theorem sl32 : slE (C gl) 32 = some (tX 3) := by kernel_rfl
theorem ar32 : arE (C gl) 32 = none := by kernel_rfl
theorem ze32 : ofV (tX 32).zero = .list true [] := by kernel_rfl
theorem zs32 : (tX 32).zero.cells.size = 1 := by kernel_rfl
theorem sz34 : (tX 34).size = 2 := by kernel_rfl
theorem by34 : (tX 34).bytes = 48 := by kernel_rfl
theorem rd34 (cs : List AV) (k : Nat) : rdC (tX 34) cs k = .agg ((cs.drop k).take 2) := rdC_agg (by kernel_rfl) sz34 cs k
theorem ro34 (cs : List AV) (k : Nat) : rdOK (tX 34) cs k = (k + 2 ≤ cs.length) := rdOK_agg (by kernel_rfl) sz34 cs k
theorem fe34_0 : fldE (C gl) 34 0 = some (0, tX 32) := by kernel_rfl
theorem fe34_1 : fldE (C gl) 34 1 = some (1, tX 32) := by kernel_rfl
def plc34 : Nat → Option (Nat × Nat)
  | 0 => some (0, 1)
  | 1 => some (1, 1)
  | _ => none
theorem bl34 : bldE (C gl) 34 = some ((ofV (tX 34).zero).cells, plc34) := by
  refine bldE_of (by kernel_rfl) ?_
  intro i
  match i with
  | 0 => show (bldE (C gl) 34).map (fun p => p.2 (0)) = some (plc34 (0)); kernel_rfl
  | 1 => show (bldE (C gl) 34).map (fun p => p.2 (1)) = some (plc34 (1)); kernel_rfl
  | n + 2 => show (bldE (C gl) 34).map (fun p => p.2 (n + 2)) = some (plc34 (n + 2)); kernel_rfl
theorem pl34_0 : plc34 0 = some (0, 1) := rfl
theorem pl34_1 : plc34 1 = some (1, 1) := rfl
theorem ze34 : ofV (tX 34).zero = .agg [.list true [], .list true []] := by kernel_rfl
theorem zs34 : (tX 34).zero.cells.size = 2 := by kernel_rfl
theorem sz43 : (tX 43).size = 1 := by kernel_rfl
theorem by43 : (tX 43).bytes = 8 := by kernel_rfl
theorem rd43 (cs : List AV) (k : Nat) : rdC (tX 43) cs k = cs.getD k .undef := rdC_one (by kernel_rfl) cs k
theorem ro43 (cs : List AV) (k : Nat) : rdOK (tX 43) cs k = (k + 1 ≤ cs.length) := rdOK_one (by kernel_rfl) sz43 cs k
theorem ze43 : ofV (tX 43).zero = .nilf := by kernel_rfl
theorem zs43 : (tX 43).zero.cells.size = 1 := by kernel_rfl
theorem sz45 : (tX 45).size = 1 := by kernel_rfl
theorem by45 : (tX 45).bytes = 8 := by kernel_rfl
theorem rd45 (cs : List AV) (k : Nat) : rdC (tX 45) cs k = cs.getD k .undef := rdC_one (by kernel_rfl) cs k
theorem ro45 (cs : List AV) (k : Nat) : rdOK (tX 45) cs k = (k + 1 ≤ cs.length) := rdOK_one (by kernel_rfl) sz45 cs k
theorem ze45 : ofV (tX 45).zero = .nilf := by kernel_rfl
theorem zs45 : (tX 45).zero.cells.size = 1 := by kernel_rfl
theorem sz49 : (tX 49).size = 1 := by kernel_rfl
theorem by49 : (tX 49).bytes = 8 := by kernel_rfl
theorem rd49 (cs : List AV) (k : Nat) : rdC (tX 49) cs k = cs.getD k .undef := rdC_one (by kernel_rfl) cs k
theorem ro49 (cs : List AV) (k : Nat) : rdOK (tX 49) cs k = (k + 1 ≤ cs.length) := rdOK_one (by kernel_rfl) sz49 cs k
theorem mp49 : mpE (C gl) 49 = some (9, tX 4) := by kernel_rfl
theorem ar49 : arE (C gl) 49 = none := by kernel_rfl
theorem ze49 : ofV (tX 49).zero = .nilm := by kernel_rfl
theorem zs49 : (tX 49).zero.cells.size = 1 := by kernel_rfl
theorem sz80 : (tX 80).size = 1 := by kernel_rfl
theorem by80 : (tX 80).bytes = 8 := by kernel_rfl
theorem rd80 (cs : List AV) (k : Nat) : rdC (tX 80) cs k = cs.getD k .undef := rdC_one (by kernel_rfl) cs k
theorem ro80 (cs : List AV) (k : Nat) : rdOK (tX 80) cs k = (k + 1 ≤ cs.length) := rdOK_one (by kernel_rfl) sz80 cs k
theorem ze80 : ofV (tX 80).zero = .nilf := by kernel_rfl
theorem zs80 : (tX 80).zero.cells.size = 1 := by kernel_rfl
theorem sz81 : (tX 81).size = 1 := by kernel_rfl
theorem by81 : (tX 81).bytes = 24 := by kernel_rfl
theorem rd81 (cs : List AV) (k : Nat) : rdC (tX 81) cs k = cs.getD k .undef := rdC_one (by kernel_rfl) cs k
theorem ro81 (cs : List AV) (k : Nat) : rdOK (tX 81) cs k = (k + 1 ≤ cs.length) := rdOK_one (by kernel_rfl) sz81 cs k
theorem sl81 : slE (C gl) 81 = some (tX 80) := by kernel_rfl
theorem ar81 : arE (C gl) 81 = none := by kernel_rfl
theorem ze81 : ofV (tX 81).zero = .list true [] := by kernel_rfl
theorem zs81 : (tX 81).zero.cells.size = 1 := by kernel_rfl
end
attribute [go_sem] c_ty21 c_ty32 c_ty34 c_ty43 c_ty45 c_ty49 c_ty80 c_ty81 sz21 by21 rd21 ro21 in21 ze21 zs21 sz32 by32 rd32 ro32 sl32 ar32 ze32 zs32 sz34 by34 rd34 ro34 fe34_0 fe34_1 bl34 pl34_0 pl34_1 ze34 zs34 sz43 by43 rd43 ro43 ze43 zs43 sz45 by45 rd45 ro45 ze45 zs45 sz49 by49 rd49 ro49 mp49 ar49 ze49 zs49 sz80 by80 rd80 ro80 ze80 zs80 sz81 by81 rd81 ro81 sl81 ar81 ze81 zs81
end Go.Sx
