import Derived.Test.YtndchmmclfidgaaDoorProg
import Derived.Test.YtndchmmclfidgaaDoorSxM
set_option maxRecDepth 100000
namespace Go.Sx
open Go Go.Lg Go.Proofs
section
variable {gl : GL}
theorem c_ty120 : (C gl).ty 120 = some (tX 120) := by show tyP Tryd.prog 120 = _; kernel_rfl
theorem c_ty121 : (C gl).ty 121 = some (tX 121) := by show tyP Tryd.prog 121 = _; kernel_rfl
theorem c_ty122 : (C gl).ty 122 = some (tX 122) := by show tyP Tryd.prog 122 = _; kernel_rfl
theorem c_ty124 : (C gl).ty 124 = some (tX 124) := by show tyP Tryd.prog 124 = _; kernel_rfl
theorem c_ty177 : (C gl).ty 177 = some (tX 177) := by show tyP Tryd.prog 177 = _; kernel_rfl
theorem sz120 : (tX 120).size = 4 := by kernel_rfl
theorem by120 : (tX 120).bytes = 24 := by kernel_rfl
theorem rd120 (cs : List AV) (k : Nat) : rdC (tX 120) cs k = .agg ((cs.drop k).take 4) := rdC_agg (by kernel_rfl) sz120 cs k
theorem ro120 (cs : List AV) (k : Nat) : rdOK (tX 120) cs k = (k + 4 ≤ cs.length) := rdOK_agg (by kernel_rfl) sz120 cs k
theorem fe120_0 : fldE (C gl) 120 0 = some (0, tX 4) := by kernel_rfl
theorem fe120_1 : fldE (C gl) 120 1 = some (1, tX 4) := by kernel_rfl
theorem fe120_2 : fldE (C gl) 120 2 = some (2, tX 3) := by kernel_rfl
theorem fe120_3 : fldE (C gl) 120 3 = some (3, tX 3) := by kernel_rfl
def plc120 : Nat → Option (Nat × Nat)
  | 0 => some (0, 1)
  | 1 => some (1, 1)
  | 2 => some (2, 1)
  | 3 => some (3, 1)
  | _ => none
theorem bl120 : bldE (C gl) 120 = some ((ofV (tX 120).zero).cells, plc120) := by
  refine bldE_of (by kernel_rfl) ?_
  intro i
  match i with
  | 0 => show (bldE (C gl) 120).map (fun p => p.2 (0)) = some (plc120 (0)); kernel_rfl
  | 1 => show (bldE (C gl) 120).map (fun p => p.2 (1)) = some (plc120 (1)); kernel_rfl
  | 2 => show (bldE (C gl) 120).map (fun p => p.2 (2)) = some (plc120 (2)); kernel_rfl
  | 3 => show (bldE (C gl) 120).map (fun p => p.2 (3)) = some (plc120 (3)); kernel_rfl
  | n + 4 => show (bldE (C gl) 120).map (fun p => p.2 (n + 4)) = some (plc120 (n + 4)); kernel_rfl
theorem pl120_0 : plc120 0 = some (0, 1) := rfl
theorem pl120_1 : plc120 1 = some (1, 1) := rfl
theorem pl120_2 : plc120 2 = some (2, 1) := rfl
theorem pl120_3 : plc120 3 = some (3, 1) := rfl
theorem ze120 : ofV (tX 120).zero = .agg [.bool false, .bool false, .int Go.IntKind.i64 0, .int Go.IntKind.i64 0] := by kernel_rfl
theorem zs120 : (tX 120).zero.cells.size = 4 := by kernel_rfl
theorem sz121 : (tX 121).size = 1 := by kernel_rfl
theorem by121 : (tX 121).bytes = 8 := by kernel_rfl
theorem rd121 (cs : List AV) (k : Nat) : rdC (tX 121) cs k = cs.getD k .undef := rdC_one (by kernel_rfl) cs k
theorem ro121 (cs : List AV) (k : Nat) : rdOK (tX 121) cs k = (k + 1 ≤ cs.length) := rdOK_one (by kernel_rfl) sz121 cs k
theorem mp121 : mpE (C gl) 121 = some (120, tX 3) := by kernel_rfl
theorem ar121 : arE (C gl) 121 = none := by kernel_rfl
theorem ze121 : ofV (tX 121).zero = .nilm := by kernel_rfl
theorem zs121 : (tX 121).zero.cells.size = 1 := by kernel_rfl
theorem sz122 : (tX 122).size = 1 := by kernel_rfl
theorem by122 : (tX 122).bytes = 24 := by kernel_rfl
theorem rd122 (cs : List AV) (k : Nat) : rdC (tX 122) cs k = cs.getD k .undef := rdC_one (by kernel_rfl) cs k
theorem ro122 (cs : List AV) (k : Nat) : rdOK (tX 122) cs k = (k + 1 ≤ cs.length) := rdOK_one (by kernel_rfl) sz122 cs k
theorem sl122 : slE (C gl) 122 = some (tX 120) := by kernel_rfl
theorem ar122 : arE (C gl) 122 = none := by kernel_rfl
theorem ze122 : ofV (tX 122).zero = .list true [] := by kernel_rfl
theorem zs122 : (tX 122).zero.cells.size = 1 := by kernel_rfl
theorem sz124 : (tX 124).size = 1 := by kernel_rfl
theorem by124 : (tX 124).bytes = 8 := by kernel_rfl
theorem rd124 (cs : List AV) (k : Nat) : rdC (tX 124) cs k = cs.getD k .undef := rdC_one (by kernel_rfl) cs k
theorem ro124 (cs : List AV) (k : Nat) : rdOK (tX 124) cs k = (k + 1 ≤ cs.length) := rdOK_one (by kernel_rfl) sz124 cs k
theorem ze124 : ofV (tX 124).zero = .nilf := by kernel_rfl
theorem zs124 : (tX 124).zero.cells.size = 1 := by kernel_rfl
theorem sz177 : (tX 177).size = 1 := by kernel_rfl
theorem by177 : (tX 177).bytes = 8 := by kernel_rfl
theorem rd177 (cs : List AV) (k : Nat) : rdC (tX 177) cs k = cs.getD k .undef := rdC_one (by kernel_rfl) cs k
theorem ro177 (cs : List AV) (k : Nat) : rdOK (tX 177) cs k = (k + 1 ≤ cs.length) := rdOK_one (by kernel_rfl) sz177 cs k
theorem ze177 : ofV (tX 177).zero = .nilf := by kernel_rfl
theorem zs177 : (tX 177).zero.cells.size = 1 := by kernel_rfl
theorem ar214 : arE (C gl) 214 = some (64, tX 5) := by kernel_rfl
end
attribute [go_sem] ar214 c_ty120 c_ty121 c_ty122 c_ty124 c_ty177 sz120 by120 rd120 ro120 fe120_0 fe120_1 fe120_2 fe120_3 bl120 pl120_0 pl120_1 pl120_2 pl120_3 ze120 zs120 sz121 by121 rd121 ro121 mp121 ar121 ze121 zs121 sz122 by122 rd122 ro122 sl122 ar122 ze122 zs122 sz124 by124 rd124 ro124 ze124 zs124 sz177 by177 rd177 ro177 ze177 zs177
end Go.Sx
