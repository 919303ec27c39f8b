import Derived.Test.YtlhdjjnjhpfgoaaDoorProg
import Derived.Test.YtlhdjjnjhpfgoaaDoorQSxF
set_option maxRecDepth 100000
namespace Go.Sx
open Go Go.Lg Go.Proofs

section
variable {gl : GL}
theorem c_ty20 : (C gl).ty 20 = some (tX 20) := by show tyP Tryd.prog 20 = _; kernel_rfl
theorem c_ty60 : (C gl).ty 60 = some (tX 60) := by show tyP Tryd.prog 60 = _; kernel_rfl
theorem c_ty64 : (C gl).ty 64 = some (tX 64) := by show tyP Tryd.prog 64 = _; kernel_rfl
theorem c_ty65 : (C gl).ty 65 = some (tX 65) := by show tyP Tryd.prog 65 = _; kernel_rfl
theorem c_ty73 : (C gl).ty 73 = some (tX 73) := by show tyP Tryd.prog 73 = _; kernel_rfl
theorem c_ty76 : (C gl).ty 76 = some (tX 76) := by show tyP Tryd.prog 76 = _; kernel_rfl
theorem c_ty86 : (C gl).ty 86 = some (tX 86) := by show tyP Tryd.prog 86 = _; kernel_rfl
theorem c_ty90 : (C gl).ty 90 = some (tX 90) := by show tyP Tryd.prog 90 = _; kernel_rfl
theorem c_ty95 : (C gl).ty 95 = some (tX 95) := by show tyP Tryd.prog 95 = _; kernel_rfl
theorem c_ty99 : (C gl).ty 99 = some (tX 99) := by show tyP Tryd.prog 99 = _; kernel_rfl
theorem c_ty103 : (C gl).ty 103 = some (tX 103) := by show tyP Tryd.prog 103 = _; kernel_rfl
theorem sz20 : (tX 20).size = 1 := by kernel_rfl
theorem by20 : (tX 20).bytes = 16 := by kernel_rfl
theorem rd20 (cs : List AV) (k : Nat) : rdC (tX 20) cs k = cs.getD k .undef := rdC_one (by kernel_rfl) cs k
theorem ro20 (cs : List AV) (k : Nat) : rdOK (tX 20) cs k = (k + 1 ≤ cs.length) := rdOK_one (by kernel_rfl) sz20 cs k
theorem ze20 : ofV (tX 20).zero = .nili := by kernel_rfl
theorem zs20 : (tX 20).zero.cells.size = 1 := by kernel_rfl
theorem sz60 : (tX 60).size = 1 := by kernel_rfl
theorem by60 : (tX 60).bytes = 24 := by kernel_rfl
theorem rd60 (cs : List AV) (k : Nat) : rdC (tX 60) cs k = cs.getD k .undef := rdC_one (by kernel_rfl) cs k
theorem ro60 (cs : List AV) (k : Nat) : rdOK (tX 60) cs k = (k + 1 ≤ cs.length) := rdOK_one (by kernel_rfl) sz60 cs k
theorem sl60 : slE (C gl) 60 = some (tX 9) := by kernel_rfl
theorem ar60 : arE (C gl) 60 = none := by kernel_rfl
theorem ze60 : ofV (tX 60).zero = .list true [] := by kernel_rfl
theorem zs60 : (tX 60).zero.cells.size = 1 := by kernel_rfl
theorem sz64 : (tX 64).size = 1 := by kernel_rfl
theorem by64 : (tX 64).bytes = 24 := by kernel_rfl
theorem rd64 (cs : List AV) (k : Nat) : rdC (tX 64) cs k = cs.getD k .undef := rdC_one (by kernel_rfl) cs k
theorem ro64 (cs : List AV) (k : Nat) : rdOK (tX 64) cs k = (k + 1 ≤ cs.length) := rdOK_one (by kernel_rfl) sz64 cs k
theorem sl64 : slE (C gl) 64 = some (tX 5) := by kernel_rfl
theorem ar64 : arE (C gl) 64 = none := by kernel_rfl
theorem ze64 : ofV (tX 64).zero = .list true [] := by kernel_rfl
theorem zs64 : (tX 64).zero.cells.size = 1 := by kernel_rfl
theorem sz65 : (tX 65).size = 2 := by kernel_rfl
theorem by65 : (tX 65).bytes = 16 := by kernel_rfl
theorem rd65 (cs : List AV) (k : Nat) : rdC (tX 65) cs k = .agg ((cs.drop k).take 2) := rdC_agg (by kernel_rfl) sz65 cs k
theorem ro65 (cs : List AV) (k : Nat) : rdOK (tX 65) cs k = (k + 2 ≤ cs.length) := rdOK_agg (by kernel_rfl) sz65 cs k
theorem ar65 : arE (C gl) 65 = some (2, tX 3) := by kernel_rfl
theorem ze65 : ofV (tX 65).zero = .agg [.int Go.IntKind.i64 0, .int Go.IntKind.i64 0] := by kernel_rfl
theorem zs65 : (tX 65).zero.cells.size = 2 := by kernel_rfl
theorem sz73 : (tX 73).size = 0 := by kernel_rfl
theorem by73 : (tX 73).bytes = 0 := by kernel_rfl
theorem rd73 (cs : List AV) (k : Nat) : rdC (tX 73) cs k = .agg ((cs.drop k).take 0) := rdC_agg (by kernel_rfl) sz73 cs k
theorem ro73 (cs : List AV) (k : Nat) : rdOK (tX 73) cs k = (k + 0 ≤ cs.length) := rdOK_agg (by kernel_rfl) sz73 cs k
theorem ze73 : ofV (tX 73).zero = .agg [] := by kernel_rfl
theorem zs73 : (tX 73).zero.cells.size = 0 := by kernel_rfl
theorem sz76 : (tX 76).size = 2 := by kernel_rfl
theorem by76 : (tX 76).bytes = 48 := by kernel_rfl
theorem rd76 (cs : List AV) (k : Nat) : rdC (tX 76) cs k = .agg ((cs.drop k).take 2) := rdC_agg (by kernel_rfl) sz76 cs k
theorem ro76 (cs : List AV) (k : Nat) : rdOK (tX 76) cs k = (k + 2 ≤ cs.length) := rdOK_agg (by kernel_rfl) sz76 cs k
theorem fe76_0 : fldE (C gl) 76 0 = some (0, tX 60) := by kernel_rfl
theorem fe76_1 : fldE (C gl) 76 1 = some (1, tX 60) := by kernel_rfl
def plc76 : Nat → Option (Nat × Nat)
  | 0 => some (0, 1)
  | 1 => some (1, 1)
  | _ => none
theorem bl76 : bldE (C gl) 76 = some ((ofV (tX 76).zero).cells, plc76) := by
  refine bldE_of (by kernel_rfl) ?_
  intro i
  match i with
  | 0 => show (bldE (C gl) 76).map (fun p => p.2 (0)) = some (plc76 (0)); kernel_rfl
  | 1 => show (bldE (C gl) 76).map (fun p => p.2 (1)) = some (plc76 (1)); kernel_rfl
  | n + 2 => show (bldE (C gl) 76).map (fun p => p.2 (n + 2)) = some (plc76 (n + 2)); kernel_rfl
theorem pl76_0 : plc76 0 = some (0, 1) := rfl
theorem pl76_1 : plc76 1 = some (1, 1) := rfl
theorem ze76 : ofV (tX 76).zero = .agg [.list true [], .list true []] := by kernel_rfl
theorem zs76 : (tX 76).zero.cells.size = 2 := by kernel_rfl
theorem sz86 : (tX 86).size = 1 := by kernel_rfl
theorem by86 : (tX 86).bytes = 8 := by kernel_rfl
theorem rd86 (cs : List AV) (k : Nat) : rdC (tX 86) cs k = cs.getD k .undef := rdC_one (by kernel_rfl) cs k
theorem ro86 (cs : List AV) (k : Nat) : rdOK (tX 86) cs k = (k + 1 ≤ cs.length) := rdOK_one (by kernel_rfl) sz86 cs k
theorem ze86 : ofV (tX 86).zero = .nilp := by kernel_rfl
theorem zs86 : (tX 86).zero.cells.size = 1 := by kernel_rfl
theorem sz90 : (tX 90).size = 14 := by kernel_rfl
theorem by90 : (tX 90).bytes = 14 := by kernel_rfl
theorem rd90 (cs : List AV) (k : Nat) : rdC (tX 90) cs k = .agg ((cs.drop k).take 14) := rdC_agg (by kernel_rfl) sz90 cs k
theorem ro90 (cs : List AV) (k : Nat) : rdOK (tX 90) cs k = (k + 14 ≤ cs.length) := rdOK_agg (by kernel_rfl) sz90 cs k
theorem ar90 : arE (C gl) 90 = some (14, tX 4) := by kernel_rfl
theorem ze90 : ofV (tX 90).zero = .agg [.bool false, .bool false, .bool false, .bool false, .bool false, .bool false, .bool false, .bool false, .bool false, .bool false, .bool false, .bool false, .bool false, .bool false] := by kernel_rfl
theorem zs90 : (tX 90).zero.cells.size = 14 := by kernel_rfl
theorem sz95 : (tX 95).size = 14 := by kernel_rfl
theorem by95 : (tX 95).bytes = 224 := by kernel_rfl
theorem rd95 (cs : List AV) (k : Nat) : rdC (tX 95) cs k = .agg ((cs.drop k).take 14) := rdC_agg (by kernel_rfl) sz95 cs k
theorem ro95 (cs : List AV) (k : Nat) : rdOK (tX 95) cs k = (k + 14 ≤ cs.length) := rdOK_agg (by kernel_rfl) sz95 cs k
theorem ar95 : arE (C gl) 95 = some (14, tX 9) := by kernel_rfl
theorem ze95 : ofV (tX 95).zero = .agg [.str .empty, .str .empty, .str .empty, .str .empty, .str .empty, .str .empty, .str .empty, .str .empty, .str .empty, .str .empty, .str .empty, .str .empty, .str .empty, .str .empty] := by kernel_rfl
theorem zs95 : (tX 95).zero.cells.size = 14 := by kernel_rfl
theorem sz99 : (tX 99).size = 256 := by kernel_rfl
theorem by99 : (tX 99).bytes = 256 := by kernel_rfl
theorem rd99 (cs : List AV) (k : Nat) : rdC (tX 99) cs k = .agg ((cs.drop k).take 256) := rdC_agg (by kernel_rfl) sz99 cs k
theorem ro99 (cs : List AV) (k : Nat) : rdOK (tX 99) cs k = (k + 256 ≤ cs.length) := rdOK_agg (by kernel_rfl) sz99 cs k
theorem ar99 : arE (C gl) 99 = some (256, tX 4) := by kernel_rfl
theorem zs99 : (tX 99).zero.cells.size = 256 := by kernel_rfl
theorem sz103 : (tX 103).size = 1 := by kernel_rfl
theorem by103 : (tX 103).bytes = 8 := by kernel_rfl
theorem rd103 (cs : List AV) (k : Nat) : rdC (tX 103) cs k = cs.getD k .undef := rdC_one (by kernel_rfl) cs k
theorem ro103 (cs : List AV) (k : Nat) : rdOK (tX 103) cs k = (k + 1 ≤ cs.length) := rdOK_one (by kernel_rfl) sz103 cs k
theorem ze103 : ofV (tX 103).zero = .nilp := by kernel_rfl
theorem zs103 : (tX 103).zero.cells.size = 1 := by kernel_rfl
end
attribute [go_sem] c_ty20 c_ty60 c_ty64 c_ty65 c_ty73 c_ty76 c_ty86 c_ty90 c_ty95 c_ty99 c_ty103 sz20 by20 rd20 ro20 ze20 zs20 sz60 by60 rd60 ro60 sl60 ar60 ze60 zs60 sz64 by64 rd64 ro64 sl64 ar64 ze64 zs64 sz65 by65 rd65 ro65 ar65 ze65 zs65 sz73 by73 rd73 ro73 ze73 zs73 sz76 by76 rd76 ro76 fe76_0 fe76_1 bl76 pl76_0 pl76_1 ze76 zs76 sz86 by86 rd86 ro86 ze86 zs86 sz90 by90 rd90 ro90 ar90 ze90 zs90 sz95 by95 rd95 ro95 ar95 ze95 zs95 sz99 by99 rd99 ro99 ar99 zs99 sz103 by103 rd103 ro103 ze103 zs103
end Go.Sx
