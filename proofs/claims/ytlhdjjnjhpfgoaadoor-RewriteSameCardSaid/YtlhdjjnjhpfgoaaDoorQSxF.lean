import Derived.Test.YtlhdjjnjhpfgoaaDoorProg
import Derived.Test.YtlhdjjnjhpfgoaaDoorLgT
set_option maxRecDepth 100000
namespace Go.Sx
open Go Go.Lg Go.Proofs

noncomputable abbrev C (gl : GL) : Cx := cx Tryd.prog gl
noncomputable abbrev tX (t : Nat) : TyI := tyX Tryd.prog t
section
variable {gl : GL}
theorem c_ty2 : (C gl).ty 2 = some (tX 2) := by show tyP Tryd.prog 2 = _; kernel_rfl
theorem c_ty3 : (C gl).ty 3 = some (tX 3) := by show tyP Tryd.prog 3 = _; kernel_rfl
theorem c_ty4 : (C gl).ty 4 = some (tX 4) := by show tyP Tryd.prog 4 = _; kernel_rfl
theorem c_ty5 : (C gl).ty 5 = some (tX 5) := by show tyP Tryd.prog 5 = _; kernel_rfl
theorem c_ty6 : (C gl).ty 6 = some (tX 6) := by show tyP Tryd.prog 6 = _; kernel_rfl
theorem c_ty9 : (C gl).ty 9 = some (tX 9) := by show tyP Tryd.prog 9 = _; kernel_rfl
theorem c_ty22 : (C gl).ty 22 = some (tX 22) := by show tyP Tryd.prog 22 = _; kernel_rfl
theorem c_ty24 : (C gl).ty 24 = some (tX 24) := by show tyP Tryd.prog 24 = _; kernel_rfl
theorem c_ty27 : (C gl).ty 27 = some (tX 27) := by show tyP Tryd.prog 27 = _; kernel_rfl
theorem c_ty30 : (C gl).ty 30 = some (tX 30) := by show tyP Tryd.prog 30 = _; kernel_rfl
theorem c_ty53 : (C gl).ty 53 = some (tX 53) := by show tyP Tryd.prog 53 = _; kernel_rfl
theorem c_ty56 : (C gl).ty 56 = some (tX 56) := by show tyP Tryd.prog 56 = _; kernel_rfl
theorem c_ty57 : (C gl).ty 57 = some (tX 57) := by show tyP Tryd.prog 57 = _; kernel_rfl
theorem c_ty61 : (C gl).ty 61 = some (tX 61) := by show tyP Tryd.prog 61 = _; kernel_rfl
theorem sz2 : (tX 2).size = 1 := by kernel_rfl
theorem by2 : (tX 2).bytes = 8 := by kernel_rfl
theorem rd2 (cs : List AV) (k : Nat) : rdC (tX 2) cs k = cs.getD k .undef := rdC_one (by kernel_rfl) cs k
theorem ro2 (cs : List AV) (k : Nat) : rdOK (tX 2) cs k = (k + 1 ≤ cs.length) := rdOK_one (by kernel_rfl) sz2 cs k
theorem in2 : intT (C gl) 2 = some Go.IntKind.i64 := by kernel_rfl
theorem ze2 : ofV (tX 2).zero = .int Go.IntKind.i64 0 := by kernel_rfl
theorem zs2 : (tX 2).zero.cells.size = 1 := by kernel_rfl
theorem sz3 : (tX 3).size = 1 := by kernel_rfl
theorem by3 : (tX 3).bytes = 8 := by kernel_rfl
theorem rd3 (cs : List AV) (k : Nat) : rdC (tX 3) cs k = cs.getD k .undef := rdC_one (by kernel_rfl) cs k
theorem ro3 (cs : List AV) (k : Nat) : rdOK (tX 3) cs k = (k + 1 ≤ cs.length) := rdOK_one (by kernel_rfl) sz3 cs k
theorem in3 : intT (C gl) 3 = some Go.IntKind.i64 := by kernel_rfl
theorem ze3 : ofV (tX 3).zero = .int Go.IntKind.i64 0 := by kernel_rfl
theorem zs3 : (tX 3).zero.cells.size = 1 := by kernel_rfl
theorem sz4 : (tX 4).size = 1 := by kernel_rfl
theorem by4 : (tX 4).bytes = 1 := by kernel_rfl
theorem rd4 (cs : List AV) (k : Nat) : rdC (tX 4) cs k = cs.getD k .undef := rdC_one (by kernel_rfl) cs k
theorem ro4 (cs : List AV) (k : Nat) : rdOK (tX 4) cs k = (k + 1 ≤ cs.length) := rdOK_one (by kernel_rfl) sz4 cs k
theorem bo4 : isBoolT (C gl) 4 = true := by kernel_rfl
theorem ze4 : ofV (tX 4).zero = .bool false := by kernel_rfl
theorem zs4 : (tX 4).zero.cells.size = 1 := by kernel_rfl
theorem sz5 : (tX 5).size = 1 := by kernel_rfl
theorem by5 : (tX 5).bytes = 1 := by kernel_rfl
theorem rd5 (cs : List AV) (k : Nat) : rdC (tX 5) cs k = cs.getD k .undef := rdC_one (by kernel_rfl) cs k
theorem ro5 (cs : List AV) (k : Nat) : rdOK (tX 5) cs k = (k + 1 ≤ cs.length) := rdOK_one (by kernel_rfl) sz5 cs k
theorem in5 : intT (C gl) 5 = some Go.IntKind.u8 := by kernel_rfl
theorem ze5 : ofV (tX 5).zero = .int Go.IntKind.u8 0 := by kernel_rfl
theorem zs5 : (tX 5).zero.cells.size = 1 := by kernel_rfl
theorem sz6 : (tX 6).size = 1 := by kernel_rfl
theorem by6 : (tX 6).bytes = 1 := by kernel_rfl
theorem rd6 (cs : List AV) (k : Nat) : rdC (tX 6) cs k = cs.getD k .undef := rdC_one (by kernel_rfl) cs k
theorem ro6 (cs : List AV) (k : Nat) : rdOK (tX 6) cs k = (k + 1 ≤ cs.length) := rdOK_one (by kernel_rfl) sz6 cs k
theorem in6 : intT (C gl) 6 = some Go.IntKind.u8 := by kernel_rfl
theorem ze6 : ofV (tX 6).zero = .int Go.IntKind.u8 0 := by kernel_rfl
theorem zs6 : (tX 6).zero.cells.size = 1 := by kernel_rfl
theorem sz9 : (tX 9).size = 1 := by kernel_rfl
theorem by9 : (tX 9).bytes = 16 := by kernel_rfl
theorem rd9 (cs : List AV) (k : Nat) : rdC (tX 9) cs k = cs.getD k .undef := rdC_one (by kernel_rfl) cs k
theorem ro9 (cs : List AV) (k : Nat) : rdOK (tX 9) cs k = (k + 1 ≤ cs.length) := rdOK_one (by kernel_rfl) sz9 cs k
theorem st9 : isStrT (C gl) 9 = true := by kernel_rfl
theorem ze9 : ofV (tX 9).zero = .str .empty := by kernel_rfl
theorem zs9 : (tX 9).zero.cells.size = 1 := by kernel_rfl
theorem sz22 : (tX 22).size = 1 := by kernel_rfl
theorem by22 : (tX 22).bytes = 24 := by kernel_rfl
theorem rd22 (cs : List AV) (k : Nat) : rdC (tX 22) cs k = cs.getD k .undef := rdC_one (by kernel_rfl) cs k
theorem ro22 (cs : List AV) (k : Nat) : rdOK (tX 22) cs k = (k + 1 ≤ cs.length) := rdOK_one (by kernel_rfl) sz22 cs k
theorem sl22 : slE (C gl) 22 = some (tX 24) := by kernel_rfl
theorem ar22 : arE (C gl) 22 = none := by kernel_rfl
theorem ze22 : ofV (tX 22).zero = .list true [] := by kernel_rfl
theorem zs22 : (tX 22).zero.cells.size = 1 := by kernel_rfl
theorem sz24 : (tX 24).size = 3 := by kernel_rfl
theorem by24 : (tX 24).bytes = 40 := by kernel_rfl
theorem rd24 (cs : List AV) (k : Nat) : rdC (tX 24) cs k = .agg ((cs.drop k).take 3) := rdC_agg (by kernel_rfl) sz24 cs k
theorem ro24 (cs : List AV) (k : Nat) : rdOK (tX 24) cs k = (k + 3 ≤ cs.length) := rdOK_agg (by kernel_rfl) sz24 cs k
theorem fe24_0 : fldE (C gl) 24 0 = some (0, tX 3) := by kernel_rfl
theorem fe24_1 : fldE (C gl) 24 1 = some (1, tX 3) := by kernel_rfl
theorem fe24_2 : fldE (C gl) 24 2 = some (2, tX 22) := by kernel_rfl
def plc24 : Nat → Option (Nat × Nat)
  | 0 => some (0, 1)
  | 1 => some (1, 1)
  | 2 => some (2, 1)
  | _ => none
theorem bl24 : bldE (C gl) 24 = some ((ofV (tX 24).zero).cells, plc24) := by
  refine bldE_of (by kernel_rfl) ?_
  intro i
  match i with
  | 0 => show (bldE (C gl) 24).map (fun p => p.2 (0)) = some (plc24 (0)); kernel_rfl
  | 1 => show (bldE (C gl) 24).map (fun p => p.2 (1)) = some (plc24 (1)); kernel_rfl
  | 2 => show (bldE (C gl) 24).map (fun p => p.2 (2)) = some (plc24 (2)); kernel_rfl
  | n + 3 => show (bldE (C gl) 24).map (fun p => p.2 (n + 3)) = some (plc24 (n + 3)); kernel_rfl
theorem pl24_0 : plc24 0 = some (0, 1) := rfl
theorem pl24_1 : plc24 1 = some (1, 1) := rfl
theorem pl24_2 : plc24 2 = some (2, 1) := rfl
theorem ze24 : ofV (tX 24).zero = .agg [.int Go.IntKind.i64 0, .int Go.IntKind.i64 0, .list true []] := by kernel_rfl
theorem zs24 : (tX 24).zero.cells.size = 3 := by kernel_rfl
theorem sz27 : (tX 27).size = 1 := by kernel_rfl
theorem by27 : (tX 27).bytes = 8 := by kernel_rfl
theorem rd27 (cs : List AV) (k : Nat) : rdC (tX 27) cs k = cs.getD k .undef := rdC_one (by kernel_rfl) cs k
theorem ro27 (cs : List AV) (k : Nat) : rdOK (tX 27) cs k = (k + 1 ≤ cs.length) := rdOK_one (by kernel_rfl) sz27 cs k
theorem in27 : intT (C gl) 27 = some Go.IntKind.i64 := by kernel_rfl
theorem ze27 : ofV (tX 27).zero = .int Go.IntKind.i64 0 := by kernel_rfl
theorem zs27 : (tX 27).zero.cells.size = 1 := by kernel_rfl
theorem sz30 : (tX 30).size = 1 := by kernel_rfl
theorem by30 : (tX 30).bytes = 8 := by kernel_rfl
theorem rd30 (cs : List AV) (k : Nat) : rdC (tX 30) cs k = cs.getD k .undef := rdC_one (by kernel_rfl) cs k
theorem ro30 (cs : List AV) (k : Nat) : rdOK (tX 30) cs k = (k + 1 ≤ cs.length) := rdOK_one (by kernel_rfl) sz30 cs k
theorem ze30 : ofV (tX 30).zero = .nilf := by kernel_rfl
theorem zs30 : (tX 30).zero.cells.size = 1 := by kernel_rfl
theorem sz53 : (tX 53).size = 1 := by kernel_rfl
theorem by53 : (tX 53).bytes = 24 := by kernel_rfl
theorem rd53 (cs : List AV) (k : Nat) : rdC (tX 53) cs k = cs.getD k .undef := rdC_one (by kernel_rfl) cs k
theorem ro53 (cs : List AV) (k : Nat) : rdOK (tX 53) cs k = (k + 1 ≤ cs.length) := rdOK_one (by kernel_rfl) sz53 cs k
theorem sl53 : slE (C gl) 53 = some (tX 4) := by kernel_rfl
theorem ar53 : arE (C gl) 53 = none := by kernel_rfl
theorem ze53 : ofV (tX 53).zero = .list true [] := by kernel_rfl
theorem zs53 : (tX 53).zero.cells.size = 1 := by kernel_rfl
theorem sz56 : (tX 56).size = 1 := by kernel_rfl
theorem by56 : (tX 56).bytes = 8 := by kernel_rfl
theorem rd56 (cs : List AV) (k : Nat) : rdC (tX 56) cs k = cs.getD k .undef := rdC_one (by kernel_rfl) cs k
theorem ro56 (cs : List AV) (k : Nat) : rdOK (tX 56) cs k = (k + 1 ≤ cs.length) := rdOK_one (by kernel_rfl) sz56 cs k
theorem ze56 : ofV (tX 56).zero = .nilf := by kernel_rfl
theorem zs56 : (tX 56).zero.cells.size = 1 := by kernel_rfl
theorem sz57 : (tX 57).size = 1 := by kernel_rfl
theorem by57 : (tX 57).bytes = 8 := by kernel_rfl
theorem rd57 (cs : List AV) (k : Nat) : rdC (tX 57) cs k = cs.getD k .undef := rdC_one (by kernel_rfl) cs k
theorem ro57 (cs : List AV) (k : Nat) : rdOK (tX 57) cs k = (k + 1 ≤ cs.length) := rdOK_one (by kernel_rfl) sz57 cs k
theorem ze57 : ofV (tX 57).zero = .nilf := by kernel_rfl
theorem zs57 : (tX 57).zero.cells.size = 1 := by kernel_rfl
theorem sz61 : (tX 61).size = 14 := by kernel_rfl
theorem by61 : (tX 61).bytes = 112 := by kernel_rfl
theorem rd61 (cs : List AV) (k : Nat) : rdC (tX 61) cs k = .agg ((cs.drop k).take 14) := rdC_agg (by kernel_rfl) sz61 cs k
theorem ro61 (cs : List AV) (k : Nat) : rdOK (tX 61) cs k = (k + 14 ≤ cs.length) := rdOK_agg (by kernel_rfl) sz61 cs k
theorem ar61 : arE (C gl) 61 = some (14, tX 3) := by kernel_rfl
theorem ze61 : ofV (tX 61).zero = .agg [.int Go.IntKind.i64 0, .int Go.IntKind.i64 0, .int Go.IntKind.i64 0, .int Go.IntKind.i64 0, .int Go.IntKind.i64 0, .int Go.IntKind.i64 0, .int Go.IntKind.i64 0, .int Go.IntKind.i64 0, .int Go.IntKind.i64 0, .int Go.IntKind.i64 0, .int Go.IntKind.i64 0, .int Go.IntKind.i64 0, .int Go.IntKind.i64 0, .int Go.IntKind.i64 0] := by kernel_rfl
theorem zs61 : (tX 61).zero.cells.size = 14 := by kernel_rfl
end
attribute [go_sem] c_ty2 c_ty3 c_ty4 c_ty5 c_ty6 c_ty9 c_ty22 c_ty24 c_ty27 c_ty30 c_ty53 c_ty56 c_ty57 c_ty61 sz2 by2 rd2 ro2 in2 ze2 zs2 sz3 by3 rd3 ro3 in3 ze3 zs3 sz4 by4 rd4 ro4 bo4 ze4 zs4 sz5 by5 rd5 ro5 in5 ze5 zs5 sz6 by6 rd6 ro6 in6 ze6 zs6 sz9 by9 rd9 ro9 st9 ze9 zs9 sz22 by22 rd22 ro22 sl22 ar22 ze22 zs22 sz24 by24 rd24 ro24 fe24_0 fe24_1 fe24_2 bl24 pl24_0 pl24_1 pl24_2 ze24 zs24 sz27 by27 rd27 ro27 in27 ze27 zs27 sz30 by30 rd30 ro30 ze30 zs30 sz53 by53 rd53 ro53 sl53 ar53 ze53 zs53 sz56 by56 rd56 ro56 ze56 zs56 sz57 by57 rd57 ro57 ze57 zs57 sz61 by61 rd61 ro61 ar61 ze61 zs61
end Go.Sx
