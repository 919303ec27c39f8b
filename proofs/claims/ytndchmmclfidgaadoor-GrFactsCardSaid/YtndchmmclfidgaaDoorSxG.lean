import Derived.Test.YtndchmmclfidgaaDoorProg
import Derived.Test.YtndchmmclfidgaaDoorSxF
set_option maxRecDepth 100000
namespace Go.Sx
open Go Go.Lg Go.Proofs

section
variable {gl : GL}
theorem c_ty46 : (C gl).ty 46 = some (tX 46) := by show tyP Tryd.prog 46 = _; kernel_rfl
theorem c_ty55 : (C gl).ty 55 = some (tX 55) := by show tyP Tryd.prog 55 = _; kernel_rfl
theorem sz46 : (tX 46).size = 1 := by kernel_rfl
theorem by46 : (tX 46).bytes = 24 := by kernel_rfl
theorem rd46 (cs : List AV) (k : Nat) : rdC (tX 46) cs k = cs.getD k .undef := rdC_one (by kernel_rfl) cs k
theorem ro46 (cs : List AV) (k : Nat) : rdOK (tX 46) cs k = (k + 1 ≤ cs.length) := rdOK_one (by kernel_rfl) sz46 cs k
theorem sl46 : slE (C gl) 46 = some (tX 27) := by kernel_rfl
theorem ar46 : arE (C gl) 46 = none := by kernel_rfl
theorem ze46 : ofV (tX 46).zero = .list true [] := by kernel_rfl
theorem zs46 : (tX 46).zero.cells.size = 1 := by kernel_rfl
theorem sz55 : (tX 55).size = 4 := by kernel_rfl
theorem by55 : (tX 55).bytes = 64 := by kernel_rfl
theorem rd55 (cs : List AV) (k : Nat) : rdC (tX 55) cs k = .agg ((cs.drop k).take 4) := rdC_agg (by kernel_rfl) sz55 cs k
theorem ro55 (cs : List AV) (k : Nat) : rdOK (tX 55) cs k = (k + 4 ≤ cs.length) := rdOK_agg (by kernel_rfl) sz55 cs k
theorem fe55_0 : fldE (C gl) 55 0 = some (0, tX 3) := by kernel_rfl
theorem fe55_1 : fldE (C gl) 55 1 = some (1, tX 3) := by kernel_rfl
theorem fe55_2 : fldE (C gl) 55 2 = some (2, tX 22) := by kernel_rfl
theorem fe55_3 : fldE (C gl) 55 3 = some (3, tX 22) := by kernel_rfl
def plc55 : Nat → Option (Nat × Nat)
  | 0 => some (0, 1)
  | 1 => some (1, 1)
  | 2 => some (2, 1)
  | 3 => some (3, 1)
  | _ => none
theorem bl55 : bldE (C gl) 55 = some ((ofV (tX 55).zero).cells, plc55) := by
  refine bldE_of (by kernel_rfl) ?_
  intro i
  match i with
  | 0 => show (bldE (C gl) 55).map (fun p => p.2 (0)) = some (plc55 (0)); kernel_rfl
  | 1 => show (bldE (C gl) 55).map (fun p => p.2 (1)) = some (plc55 (1)); kernel_rfl
  | 2 => show (bldE (C gl) 55).map (fun p => p.2 (2)) = some (plc55 (2)); kernel_rfl
  | 3 => show (bldE (C gl) 55).map (fun p => p.2 (3)) = some (plc55 (3)); kernel_rfl
  | n + 4 => show (bldE (C gl) 55).map (fun p => p.2 (n + 4)) = some (plc55 (n + 4)); kernel_rfl
theorem pl55_0 : plc55 0 = some (0, 1) := rfl
theorem pl55_1 : plc55 1 = some (1, 1) := rfl
theorem pl55_2 : plc55 2 = some (2, 1) := rfl
theorem pl55_3 : plc55 3 = some (3, 1) := rfl
theorem ze55 : ofV (tX 55).zero = .agg [.int Go.IntKind.i64 0, .int Go.IntKind.i64 0, .list true [], .list true []] := by kernel_rfl
theorem zs55 : (tX 55).zero.cells.size = 4 := by kernel_rfl
end
attribute [go_sem] c_ty46 c_ty55 sz46 by46 rd46 ro46 sl46 ar46 ze46 zs46 sz55 by55 rd55 ro55 fe55_0 fe55_1 fe55_2 fe55_3 bl55 pl55_0 pl55_1 pl55_2 pl55_3 ze55 zs55
end Go.Sx
