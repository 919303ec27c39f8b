import Derived.Test.YtndchmmclfidgaaDoorProg
import Derived.Test.YtndchmmclfidgaaDoorSxF
set_option maxRecDepth 100000
namespace Go.Sx
open Go Go.Lg Go.Proofs

section
variable {gl : GL}
theorem c_ty20 : (C gl).ty 20 = some (tX 20) := by show tyP Tryd.prog 20 = _; kernel_rfl
theorem c_ty62 : (C gl).ty 62 = some (tX 62) := by show tyP Tryd.prog 62 = _; kernel_rfl
theorem c_ty129 : (C gl).ty 129 = some (tX 129) := by show tyP Tryd.prog 129 = _; kernel_rfl
theorem c_ty132 : (C gl).ty 132 = some (tX 132) := by show tyP Tryd.prog 132 = _; kernel_rfl
theorem c_ty138 : (C gl).ty 138 = some (tX 138) := by show tyP Tryd.prog 138 = _; kernel_rfl
theorem c_ty184 : (C gl).ty 184 = some (tX 184) := by show tyP Tryd.prog 184 = _; kernel_rfl
theorem c_ty188 : (C gl).ty 188 = some (tX 188) := by show tyP Tryd.prog 188 = _; kernel_rfl
theorem c_ty195 : (C gl).ty 195 = some (tX 195) := by show tyP Tryd.prog 195 = _; kernel_rfl
theorem c_ty206 : (C gl).ty 206 = some (tX 206) := by show tyP Tryd.prog 206 = _; kernel_rfl
theorem c_ty229 : (C gl).ty 229 = some (tX 229) := by show tyP Tryd.prog 229 = _; kernel_rfl
theorem c_ty233 : (C gl).ty 233 = some (tX 233) := by show tyP Tryd.prog 233 = _; kernel_rfl
theorem sz20 : (tX 20).size = 1 := by kernel_rfl
theorem by20 : (tX 20).bytes = 16 := by kernel_rfl
theorem rd20 (cs : List AV) (k : Nat) : rdC (tX 20) cs k = cs.getD k .undef := rdC_one (by kernel_rfl) cs k
theorem ro20 (cs : List AV) (k : Nat) : rdOK (tX 20) cs k = (k + 1 ≤ cs.length) := rdOK_one (by kernel_rfl) sz20 cs k
theorem ze20 : ofV (tX 20).zero = .nili := by kernel_rfl
theorem zs20 : (tX 20).zero.cells.size = 1 := by kernel_rfl
theorem sz62 : (tX 62).size = 1 := by kernel_rfl
theorem by62 : (tX 62).bytes = 24 := by kernel_rfl
theorem rd62 (cs : List AV) (k : Nat) : rdC (tX 62) cs k = cs.getD k .undef := rdC_one (by kernel_rfl) cs k
theorem ro62 (cs : List AV) (k : Nat) : rdOK (tX 62) cs k = (k + 1 ≤ cs.length) := rdOK_one (by kernel_rfl) sz62 cs k
theorem sl62 : slE (C gl) 62 = some (tX 9) := by kernel_rfl
theorem ar62 : arE (C gl) 62 = none := by kernel_rfl
theorem ze62 : ofV (tX 62).zero = .list true [] := by kernel_rfl
theorem zs62 : (tX 62).zero.cells.size = 1 := by kernel_rfl
theorem sz129 : (tX 129).size = 0 := by kernel_rfl
theorem by129 : (tX 129).bytes = 0 := by kernel_rfl
theorem rd129 (cs : List AV) (k : Nat) : rdC (tX 129) cs k = .agg ((cs.drop k).take 0) := rdC_agg (by kernel_rfl) sz129 cs k
theorem ro129 (cs : List AV) (k : Nat) : rdOK (tX 129) cs k = (k + 0 ≤ cs.length) := rdOK_agg (by kernel_rfl) sz129 cs k
theorem ze129 : ofV (tX 129).zero = .agg [] := by kernel_rfl
theorem zs129 : (tX 129).zero.cells.size = 0 := by kernel_rfl
theorem sz132 : (tX 132).size = 2 := by kernel_rfl
theorem by132 : (tX 132).bytes = 48 := by kernel_rfl
theorem rd132 (cs : List AV) (k : Nat) : rdC (tX 132) cs k = .agg ((cs.drop k).take 2) := rdC_agg (by kernel_rfl) sz132 cs k
theorem ro132 (cs : List AV) (k : Nat) : rdOK (tX 132) cs k = (k + 2 ≤ cs.length) := rdOK_agg (by kernel_rfl) sz132 cs k
theorem fe132_0 : fldE (C gl) 132 0 = some (0, tX 62) := by kernel_rfl
theorem fe132_1 : fldE (C gl) 132 1 = some (1, tX 62) := by kernel_rfl
def plc132 : Nat → Option (Nat × Nat)
  | 0 => some (0, 1)
  | 1 => some (1, 1)
  | _ => none
theorem bl132 : bldE (C gl) 132 = some ((ofV (tX 132).zero).cells, plc132) := by
  refine bldE_of (by kernel_rfl) ?_
  intro i
  match i with
  | 0 => show (bldE (C gl) 132).map (fun p => p.2 (0)) = some (plc132 (0)); kernel_rfl
  | 1 => show (bldE (C gl) 132).map (fun p => p.2 (1)) = some (plc132 (1)); kernel_rfl
  | n + 2 => show (bldE (C gl) 132).map (fun p => p.2 (n + 2)) = some (plc132 (n + 2)); kernel_rfl
theorem pl132_0 : plc132 0 = some (0, 1) := rfl
theorem pl132_1 : plc132 1 = some (1, 1) := rfl
theorem ze132 : ofV (tX 132).zero = .agg [.list true [], .list true []] := by kernel_rfl
theorem zs132 : (tX 132).zero.cells.size = 2 := by kernel_rfl
theorem sz138 : (tX 138).size = 1 := by kernel_rfl
theorem by138 : (tX 138).bytes = 24 := by kernel_rfl
theorem rd138 (cs : List AV) (k : Nat) : rdC (tX 138) cs k = cs.getD k .undef := rdC_one (by kernel_rfl) cs k
theorem ro138 (cs : List AV) (k : Nat) : rdOK (tX 138) cs k = (k + 1 ≤ cs.length) := rdOK_one (by kernel_rfl) sz138 cs k
theorem sl138 : slE (C gl) 138 = some (tX 5) := by kernel_rfl
theorem ar138 : arE (C gl) 138 = none := by kernel_rfl
theorem ze138 : ofV (tX 138).zero = .list true [] := by kernel_rfl
theorem zs138 : (tX 138).zero.cells.size = 1 := by kernel_rfl
theorem sz184 : (tX 184).size = 1 := by kernel_rfl
theorem by184 : (tX 184).bytes = 8 := by kernel_rfl
theorem rd184 (cs : List AV) (k : Nat) : rdC (tX 184) cs k = cs.getD k .undef := rdC_one (by kernel_rfl) cs k
theorem ro184 (cs : List AV) (k : Nat) : rdOK (tX 184) cs k = (k + 1 ≤ cs.length) := rdOK_one (by kernel_rfl) sz184 cs k
theorem ze184 : ofV (tX 184).zero = .nilp := by kernel_rfl
theorem zs184 : (tX 184).zero.cells.size = 1 := by kernel_rfl
theorem sz188 : (tX 188).size = 14 := by kernel_rfl
theorem by188 : (tX 188).bytes = 14 := by kernel_rfl
theorem rd188 (cs : List AV) (k : Nat) : rdC (tX 188) cs k = .agg ((cs.drop k).take 14) := rdC_agg (by kernel_rfl) sz188 cs k
theorem ro188 (cs : List AV) (k : Nat) : rdOK (tX 188) cs k = (k + 14 ≤ cs.length) := rdOK_agg (by kernel_rfl) sz188 cs k
theorem ar188 : arE (C gl) 188 = some (14, tX 4) := by kernel_rfl
theorem ze188 : ofV (tX 188).zero = .agg [.bool false, .bool false, .bool false, .bool false, .bool false, .bool false, .bool false, .bool false, .bool false, .bool false, .bool false, .bool false, .bool false, .bool false] := by kernel_rfl
theorem zs188 : (tX 188).zero.cells.size = 14 := by kernel_rfl
theorem sz195 : (tX 195).size = 14 := by kernel_rfl
theorem by195 : (tX 195).bytes = 224 := by kernel_rfl
theorem rd195 (cs : List AV) (k : Nat) : rdC (tX 195) cs k = .agg ((cs.drop k).take 14) := rdC_agg (by kernel_rfl) sz195 cs k
theorem ro195 (cs : List AV) (k : Nat) : rdOK (tX 195) cs k = (k + 14 ≤ cs.length) := rdOK_agg (by kernel_rfl) sz195 cs k
theorem ar195 : arE (C gl) 195 = some (14, tX 9) := by kernel_rfl
theorem ze195 : ofV (tX 195).zero = .agg [.str .empty, .str .empty, .str .empty, .str .empty, .str .empty, .str .empty, .str .empty, .str .empty, .str .empty, .str .empty, .str .empty, .str .empty, .str .empty, .str .empty] := by kernel_rfl
theorem zs195 : (tX 195).zero.cells.size = 14 := by kernel_rfl
theorem sz206 : (tX 206).size = 2 := by kernel_rfl
theorem by206 : (tX 206).bytes = 16 := by kernel_rfl
theorem rd206 (cs : List AV) (k : Nat) : rdC (tX 206) cs k = .agg ((cs.drop k).take 2) := rdC_agg (by kernel_rfl) sz206 cs k
theorem ro206 (cs : List AV) (k : Nat) : rdOK (tX 206) cs k = (k + 2 ≤ cs.length) := rdOK_agg (by kernel_rfl) sz206 cs k
theorem ar206 : arE (C gl) 206 = some (2, tX 3) := by kernel_rfl
theorem ze206 : ofV (tX 206).zero = .agg [.int Go.IntKind.i64 0, .int Go.IntKind.i64 0] := by kernel_rfl
theorem zs206 : (tX 206).zero.cells.size = 2 := by kernel_rfl
theorem sz229 : (tX 229).size = 256 := by kernel_rfl
theorem by229 : (tX 229).bytes = 256 := by kernel_rfl
theorem rd229 (cs : List AV) (k : Nat) : rdC (tX 229) cs k = .agg ((cs.drop k).take 256) := rdC_agg (by kernel_rfl) sz229 cs k
theorem ro229 (cs : List AV) (k : Nat) : rdOK (tX 229) cs k = (k + 256 ≤ cs.length) := rdOK_agg (by kernel_rfl) sz229 cs k
theorem ar229 : arE (C gl) 229 = some (256, tX 4) := by kernel_rfl
theorem zs229 : (tX 229).zero.cells.size = 256 := by kernel_rfl
theorem sz233 : (tX 233).size = 1 := by kernel_rfl
theorem by233 : (tX 233).bytes = 8 := by kernel_rfl
theorem rd233 (cs : List AV) (k : Nat) : rdC (tX 233) cs k = cs.getD k .undef := rdC_one (by kernel_rfl) cs k
theorem ro233 (cs : List AV) (k : Nat) : rdOK (tX 233) cs k = (k + 1 ≤ cs.length) := rdOK_one (by kernel_rfl) sz233 cs k
theorem ze233 : ofV (tX 233).zero = .nilp := by kernel_rfl
theorem zs233 : (tX 233).zero.cells.size = 1 := by kernel_rfl
end
attribute [go_sem] c_ty20 c_ty62 c_ty129 c_ty132 c_ty138 c_ty184 c_ty188 c_ty195 c_ty206 c_ty229 c_ty233 sz20 by20 rd20 ro20 ze20 zs20 sz62 by62 rd62 ro62 sl62 ar62 ze62 zs62 sz129 by129 rd129 ro129 ze129 zs129 sz132 by132 rd132 ro132 fe132_0 fe132_1 bl132 pl132_0 pl132_1 ze132 zs132 sz138 by138 rd138 ro138 sl138 ar138 ze138 zs138 sz184 by184 rd184 ro184 ze184 zs184 sz188 by188 rd188 ro188 ar188 ze188 zs188 sz195 by195 rd195 ro195 ar195 ze195 zs195 sz206 by206 rd206 ro206 ar206 ze206 zs206 sz229 by229 rd229 ro229 ar229 zs229 sz233 by233 rd233 ro233 ze233 zs233
end Go.Sx
