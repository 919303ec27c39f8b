import Derived.Test.YtndchmmclfidgaaDoorProg
import Derived.Test.YtndchmmclfidgaaDoorSxF
import Derived.Test.YtndchmmclfidgaaDoorSxH
import Derived.Test.YtndchmmclfidgaaDoorSxI
set_option maxRecDepth 100000
namespace Go.Sx
open Go Go.Lg Go.Proofs

section
variable {gl : GL}
theorem c_ty21 : (C gl).ty 21 = some (tX 21) := by show tyP Tryd.prog 21 = _; kernel_rfl
theorem c_ty58 : (C gl).ty 58 = some (tX 58) := by show tyP Tryd.prog 58 = _; kernel_rfl
theorem c_ty69 : (C gl).ty 69 = some (tX 69) := by show tyP Tryd.prog 69 = _; kernel_rfl
theorem c_ty87 : (C gl).ty 87 = some (tX 87) := by show tyP Tryd.prog 87 = _; kernel_rfl
theorem c_ty109 : (C gl).ty 109 = some (tX 109) := by show tyP Tryd.prog 109 = _; kernel_rfl
theorem c_ty135 : (C gl).ty 135 = some (tX 135) := by show tyP Tryd.prog 135 = _; kernel_rfl
theorem c_ty137 : (C gl).ty 137 = some (tX 137) := by show tyP Tryd.prog 137 = _; kernel_rfl
theorem c_ty149 : (C gl).ty 149 = some (tX 149) := by show tyP Tryd.prog 149 = _; kernel_rfl
theorem c_ty150 : (C gl).ty 150 = some (tX 150) := by show tyP Tryd.prog 150 = _; kernel_rfl
theorem c_ty159 : (C gl).ty 159 = some (tX 159) := by show tyP Tryd.prog 159 = _; kernel_rfl
theorem c_ty190 : (C gl).ty 190 = some (tX 190) := by show tyP Tryd.prog 190 = _; kernel_rfl
theorem c_ty193 : (C gl).ty 193 = some (tX 193) := by show tyP Tryd.prog 193 = _; kernel_rfl
theorem c_ty199 : (C gl).ty 199 = some (tX 199) := by show tyP Tryd.prog 199 = _; kernel_rfl
theorem c_ty220 : (C gl).ty 220 = some (tX 220) := by show tyP Tryd.prog 220 = _; kernel_rfl
theorem c_ty221 : (C gl).ty 221 = some (tX 221) := by show tyP Tryd.prog 221 = _; kernel_rfl
theorem sz21 : (tX 21).size = 1 := by kernel_rfl
theorem by21 : (tX 21).bytes = 4 := by kernel_rfl
theorem rd21 (cs : List AV) (k : Nat) : rdC (tX 21) cs k = cs.getD k .undef := rdC_one (by kernel_rfl) cs k
theorem ro21 (cs : List AV) (k : Nat) : rdOK (tX 21) cs k = (k + 1 ≤ cs.length) := rdOK_one (by kernel_rfl) sz21 cs k
theorem in21 : intT (C gl) 21 = some Go.IntKind.i32 := by kernel_rfl
theorem ze21 : ofV (tX 21).zero = .int Go.IntKind.i32 0 := by kernel_rfl
theorem zs21 : (tX 21).zero.cells.size = 1 := by kernel_rfl
theorem sz58 : (tX 58).size = 1 := by kernel_rfl
theorem by58 : (tX 58).bytes = 8 := by kernel_rfl
theorem rd58 (cs : List AV) (k : Nat) : rdC (tX 58) cs k = cs.getD k .undef := rdC_one (by kernel_rfl) cs k
theorem ro58 (cs : List AV) (k : Nat) : rdOK (tX 58) cs k = (k + 1 ≤ cs.length) := rdOK_one (by kernel_rfl) sz58 cs k
theorem ze58 : ofV (tX 58).zero = .nilf := by kernel_rfl
theorem zs58 : (tX 58).zero.cells.size = 1 := by kernel_rfl
theorem sz69 : (tX 69).size = 1 := by kernel_rfl
theorem by69 : (tX 69).bytes = 24 := by kernel_rfl
theorem rd69 (cs : List AV) (k : Nat) : rdC (tX 69) cs k = cs.getD k .undef := rdC_one (by kernel_rfl) cs k
theorem ro69 (cs : List AV) (k : Nat) : rdOK (tX 69) cs k = (k + 1 ≤ cs.length) := rdOK_one (by kernel_rfl) sz69 cs k
theorem sl69 : slE (C gl) 69 = some (tX 3) := by kernel_rfl
theorem ar69 : arE (C gl) 69 = none := by kernel_rfl
theorem ze69 : ofV (tX 69).zero = .list true [] := by kernel_rfl
theorem zs69 : (tX 69).zero.cells.size = 1 := by kernel_rfl
theorem sz87 : (tX 87).size = 2 := by kernel_rfl
theorem by87 : (tX 87).bytes = 48 := by kernel_rfl
theorem rd87 (cs : List AV) (k : Nat) : rdC (tX 87) cs k = .agg ((cs.drop k).take 2) := rdC_agg (by kernel_rfl) sz87 cs k
theorem ro87 (cs : List AV) (k : Nat) : rdOK (tX 87) cs k = (k + 2 ≤ cs.length) := rdOK_agg (by kernel_rfl) sz87 cs k
theorem fe87_0 : fldE (C gl) 87 0 = some (0, tX 69) := by kernel_rfl
theorem fe87_1 : fldE (C gl) 87 1 = some (1, tX 69) := by kernel_rfl
def plc87 : Nat → Option (Nat × Nat)
  | 0 => some (0, 1)
  | 1 => some (1, 1)
  | _ => none
theorem bl87 : bldE (C gl) 87 = some ((ofV (tX 87).zero).cells, plc87) := by
  refine bldE_of (by kernel_rfl) ?_
  intro i
  match i with
  | 0 => show (bldE (C gl) 87).map (fun p => p.2 (0)) = some (plc87 (0)); kernel_rfl
  | 1 => show (bldE (C gl) 87).map (fun p => p.2 (1)) = some (plc87 (1)); kernel_rfl
  | n + 2 => show (bldE (C gl) 87).map (fun p => p.2 (n + 2)) = some (plc87 (n + 2)); kernel_rfl
theorem pl87_0 : plc87 0 = some (0, 1) := rfl
theorem pl87_1 : plc87 1 = some (1, 1) := rfl
theorem ze87 : ofV (tX 87).zero = .agg [.list true [], .list true []] := by kernel_rfl
theorem zs87 : (tX 87).zero.cells.size = 2 := by kernel_rfl
theorem sz109 : (tX 109).size = 1 := by kernel_rfl
theorem by109 : (tX 109).bytes = 8 := by kernel_rfl
theorem rd109 (cs : List AV) (k : Nat) : rdC (tX 109) cs k = cs.getD k .undef := rdC_one (by kernel_rfl) cs k
theorem ro109 (cs : List AV) (k : Nat) : rdOK (tX 109) cs k = (k + 1 ≤ cs.length) := rdOK_one (by kernel_rfl) sz109 cs k
theorem ze109 : ofV (tX 109).zero = .nilf := by kernel_rfl
theorem zs109 : (tX 109).zero.cells.size = 1 := by kernel_rfl
theorem sz135 : (tX 135).size = 1 := by kernel_rfl
theorem by135 : (tX 135).bytes = 8 := by kernel_rfl
theorem rd135 (cs : List AV) (k : Nat) : rdC (tX 135) cs k = cs.getD k .undef := rdC_one (by kernel_rfl) cs k
theorem ro135 (cs : List AV) (k : Nat) : rdOK (tX 135) cs k = (k + 1 ≤ cs.length) := rdOK_one (by kernel_rfl) sz135 cs k
theorem ze135 : ofV (tX 135).zero = .nilp := by kernel_rfl
theorem zs135 : (tX 135).zero.cells.size = 1 := by kernel_rfl
theorem sz137 : (tX 137).size = 3 := by kernel_rfl
theorem by137 : (tX 137).bytes = 56 := by kernel_rfl
theorem rd137 (cs : List AV) (k : Nat) : rdC (tX 137) cs k = .agg ((cs.drop k).take 3) := rdC_agg (by kernel_rfl) sz137 cs k
theorem ro137 (cs : List AV) (k : Nat) : rdOK (tX 137) cs k = (k + 3 ≤ cs.length) := rdOK_agg (by kernel_rfl) sz137 cs k
theorem fe137_0 : fldE (C gl) 137 0 = some (0, tX 62) := by kernel_rfl
theorem fe137_1 : fldE (C gl) 137 1 = some (1, tX 62) := by kernel_rfl
theorem fe137_2 : fldE (C gl) 137 2 = some (2, tX 4) := by kernel_rfl
def plc137 : Nat → Option (Nat × Nat)
  | 0 => some (0, 1)
  | 1 => some (1, 1)
  | 2 => some (2, 1)
  | _ => none
theorem bl137 : bldE (C gl) 137 = some ((ofV (tX 137).zero).cells, plc137) := by
  refine bldE_of (by kernel_rfl) ?_
  intro i
  match i with
  | 0 => show (bldE (C gl) 137).map (fun p => p.2 (0)) = some (plc137 (0)); kernel_rfl
  | 1 => show (bldE (C gl) 137).map (fun p => p.2 (1)) = some (plc137 (1)); kernel_rfl
  | 2 => show (bldE (C gl) 137).map (fun p => p.2 (2)) = some (plc137 (2)); kernel_rfl
  | n + 3 => show (bldE (C gl) 137).map (fun p => p.2 (n + 3)) = some (plc137 (n + 3)); kernel_rfl
theorem pl137_0 : plc137 0 = some (0, 1) := rfl
theorem pl137_1 : plc137 1 = some (1, 1) := rfl
theorem pl137_2 : plc137 2 = some (2, 1) := rfl
theorem ze137 : ofV (tX 137).zero = .agg [.list true [], .list true [], .bool false] := by kernel_rfl
theorem zs137 : (tX 137).zero.cells.size = 3 := by kernel_rfl
theorem sz149 : (tX 149).size = 1 := by kernel_rfl
theorem by149 : (tX 149).bytes = 8 := by kernel_rfl
theorem rd149 (cs : List AV) (k : Nat) : rdC (tX 149) cs k = cs.getD k .undef := rdC_one (by kernel_rfl) cs k
theorem ro149 (cs : List AV) (k : Nat) : rdOK (tX 149) cs k = (k + 1 ≤ cs.length) := rdOK_one (by kernel_rfl) sz149 cs k
theorem mp149 : mpE (C gl) 149 = some (9, tX 4) := by kernel_rfl
theorem ar149 : arE (C gl) 149 = none := by kernel_rfl
theorem ze149 : ofV (tX 149).zero = .nilm := by kernel_rfl
theorem zs149 : (tX 149).zero.cells.size = 1 := by kernel_rfl
theorem sz150 : (tX 150).size = 1 := by kernel_rfl
theorem by150 : (tX 150).bytes = 8 := by kernel_rfl
theorem rd150 (cs : List AV) (k : Nat) : rdC (tX 150) cs k = cs.getD k .undef := rdC_one (by kernel_rfl) cs k
theorem ro150 (cs : List AV) (k : Nat) : rdOK (tX 150) cs k = (k + 1 ≤ cs.length) := rdOK_one (by kernel_rfl) sz150 cs k
theorem ze150 : ofV (tX 150).zero = .nilf := by kernel_rfl
theorem zs150 : (tX 150).zero.cells.size = 1 := by kernel_rfl
theorem sz159 : (tX 159).size = 1 := by kernel_rfl
theorem by159 : (tX 159).bytes = 8 := by kernel_rfl
theorem rd159 (cs : List AV) (k : Nat) : rdC (tX 159) cs k = cs.getD k .undef := rdC_one (by kernel_rfl) cs k
theorem ro159 (cs : List AV) (k : Nat) : rdOK (tX 159) cs k = (k + 1 ≤ cs.length) := rdOK_one (by kernel_rfl) sz159 cs k
theorem ze159 : ofV (tX 159).zero = .nilp := by kernel_rfl
theorem zs159 : (tX 159).zero.cells.size = 1 := by kernel_rfl
theorem sz190 : (tX 190).size = 1 := by kernel_rfl
theorem by190 : (tX 190).bytes = 24 := by kernel_rfl
theorem rd190 (cs : List AV) (k : Nat) : rdC (tX 190) cs k = cs.getD k .undef := rdC_one (by kernel_rfl) cs k
theorem ro190 (cs : List AV) (k : Nat) : rdOK (tX 190) cs k = (k + 1 ≤ cs.length) := rdOK_one (by kernel_rfl) sz190 cs k
theorem sl190 : slE (C gl) 190 = some (tX 193) := by kernel_rfl
theorem ar190 : arE (C gl) 190 = none := by kernel_rfl
theorem ze190 : ofV (tX 190).zero = .list true [] := by kernel_rfl
theorem zs190 : (tX 190).zero.cells.size = 1 := by kernel_rfl
theorem sz193 : (tX 193).size = 4 := by kernel_rfl
theorem by193 : (tX 193).bytes = 40 := by kernel_rfl
theorem rd193 (cs : List AV) (k : Nat) : rdC (tX 193) cs k = .agg ((cs.drop k).take 4) := rdC_agg (by kernel_rfl) sz193 cs k
theorem ro193 (cs : List AV) (k : Nat) : rdOK (tX 193) cs k = (k + 4 ≤ cs.length) := rdOK_agg (by kernel_rfl) sz193 cs k
theorem fe193_0 : fldE (C gl) 193 0 = some (0, tX 3) := by kernel_rfl
theorem fe193_1 : fldE (C gl) 193 1 = some (1, tX 9) := by kernel_rfl
theorem fe193_2 : fldE (C gl) 193 2 = some (2, tX 3) := by kernel_rfl
theorem fe193_3 : fldE (C gl) 193 3 = some (3, tX 4) := by kernel_rfl
def plc193 : Nat → Option (Nat × Nat)
  | 0 => some (0, 1)
  | 1 => some (1, 1)
  | 2 => some (2, 1)
  | 3 => some (3, 1)
  | _ => none
theorem bl193 : bldE (C gl) 193 = some ((ofV (tX 193).zero).cells, plc193) := by
  refine bldE_of (by kernel_rfl) ?_
  intro i
  match i with
  | 0 => show (bldE (C gl) 193).map (fun p => p.2 (0)) = some (plc193 (0)); kernel_rfl
  | 1 => show (bldE (C gl) 193).map (fun p => p.2 (1)) = some (plc193 (1)); kernel_rfl
  | 2 => show (bldE (C gl) 193).map (fun p => p.2 (2)) = some (plc193 (2)); kernel_rfl
  | 3 => show (bldE (C gl) 193).map (fun p => p.2 (3)) = some (plc193 (3)); kernel_rfl
  | n + 4 => show (bldE (C gl) 193).map (fun p => p.2 (n + 4)) = some (plc193 (n + 4)); kernel_rfl
theorem pl193_0 : plc193 0 = some (0, 1) := rfl
theorem pl193_1 : plc193 1 = some (1, 1) := rfl
theorem pl193_2 : plc193 2 = some (2, 1) := rfl
theorem pl193_3 : plc193 3 = some (3, 1) := rfl
theorem ze193 : ofV (tX 193).zero = .agg [.int Go.IntKind.i64 0, .str .empty, .int Go.IntKind.i64 0, .bool false] := by kernel_rfl
theorem zs193 : (tX 193).zero.cells.size = 4 := by kernel_rfl
theorem sz199 : (tX 199).size = 1 := by kernel_rfl
theorem by199 : (tX 199).bytes = 8 := by kernel_rfl
theorem rd199 (cs : List AV) (k : Nat) : rdC (tX 199) cs k = cs.getD k .undef := rdC_one (by kernel_rfl) cs k
theorem ro199 (cs : List AV) (k : Nat) : rdOK (tX 199) cs k = (k + 1 ≤ cs.length) := rdOK_one (by kernel_rfl) sz199 cs k
theorem mp199 : mpE (C gl) 199 = some (3, tX 3) := by kernel_rfl
theorem ar199 : arE (C gl) 199 = none := by kernel_rfl
theorem ze199 : ofV (tX 199).zero = .nilm := by kernel_rfl
theorem zs199 : (tX 199).zero.cells.size = 1 := by kernel_rfl
theorem sz220 : (tX 220).size = 1 := by kernel_rfl
theorem by220 : (tX 220).bytes = 8 := by kernel_rfl
theorem rd220 (cs : List AV) (k : Nat) : rdC (tX 220) cs k = cs.getD k .undef := rdC_one (by kernel_rfl) cs k
theorem ro220 (cs : List AV) (k : Nat) : rdOK (tX 220) cs k = (k + 1 ≤ cs.length) := rdOK_one (by kernel_rfl) sz220 cs k
theorem ze220 : ofV (tX 220).zero = .nilf := by kernel_rfl
theorem zs220 : (tX 220).zero.cells.size = 1 := by kernel_rfl
theorem sz221 : (tX 221).size = 1 := by kernel_rfl
theorem by221 : (tX 221).bytes = 24 := by kernel_rfl
theorem rd221 (cs : List AV) (k : Nat) : rdC (tX 221) cs k = cs.getD k .undef := rdC_one (by kernel_rfl) cs k
theorem ro221 (cs : List AV) (k : Nat) : rdOK (tX 221) cs k = (k + 1 ≤ cs.length) := rdOK_one (by kernel_rfl) sz221 cs k
theorem sl221 : slE (C gl) 221 = some (tX 220) := by kernel_rfl
theorem ar221 : arE (C gl) 221 = none := by kernel_rfl
theorem ze221 : ofV (tX 221).zero = .list true [] := by kernel_rfl
theorem zs221 : (tX 221).zero.cells.size = 1 := by kernel_rfl
end
attribute [go_sem] c_ty21 c_ty58 c_ty69 c_ty87 c_ty109 c_ty135 c_ty137 c_ty149 c_ty150 c_ty159 c_ty190 c_ty193 c_ty199 c_ty220 c_ty221 sz21 by21 rd21 ro21 in21 ze21 zs21 sz58 by58 rd58 ro58 ze58 zs58 sz69 by69 rd69 ro69 sl69 ar69 ze69 zs69 sz87 by87 rd87 ro87 fe87_0 fe87_1 bl87 pl87_0 pl87_1 ze87 zs87 sz109 by109 rd109 ro109 ze109 zs109 sz135 by135 rd135 ro135 ze135 zs135 sz137 by137 rd137 ro137 fe137_0 fe137_1 fe137_2 bl137 pl137_0 pl137_1 pl137_2 ze137 zs137 sz149 by149 rd149 ro149 mp149 ar149 ze149 zs149 sz150 by150 rd150 ro150 ze150 zs150 sz159 by159 rd159 ro159 ze159 zs159 sz190 by190 rd190 ro190 sl190 ar190 ze190 zs190 sz193 by193 rd193 ro193 fe193_0 fe193_1 fe193_2 fe193_3 bl193 pl193_0 pl193_1 pl193_2 pl193_3 ze193 zs193 sz199 by199 rd199 ro199 mp199 ar199 ze199 zs199 sz220 by220 rd220 ro220 ze220 zs220 sz221 by221 rd221 ro221 sl221 ar221 ze221 zs221
end Go.Sx
