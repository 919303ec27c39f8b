import Derived.Test.YtndchmmclfidgaaDoorProg
import Derived.Test.YtndchmmclfidgaaDoorLgT
import Derived.ChangeKeysEq
import Derived.Laws.StructEq
set_option maxRecDepth 100000
namespace Go.Sx
open Go Go.Lg Go.Proofs
noncomputable abbrev C (gl : GL) : Cx := cx Tryd.prog gl
noncomputable abbrev tX (t : Nat) : TyI := tyX Tryd.prog t
section
variable {gl : GL}
theorem c_ty2 : (C gl).ty 2 = some (tX 2) := by show tyP Tryd.prog 2 = _; kernel_rfl
theorem c_ty3 : (C gl).ty 3 = some (tX 3) := by show tyP Tryd.prog 3 = _; kernel_rfl
theorem c_ty4 : (C gl).ty 4 = some (tX 4) := by show tyP Tryd.prog 4 = _; kernel_rfl
theorem c_ty5 : (C gl).ty 5 = some (tX 5) := by show tyP Tryd.prog 5 = _; kernel_rfl
theorem c_ty6 : (C gl).ty 6 = some (tX 6) := by show tyP Tryd.prog 6 = _; kernel_rfl
theorem c_ty9 : (C gl).ty 9 = some (tX 9) := by show tyP Tryd.prog 9 = _; kernel_rfl
theorem c_ty22 : (C gl).ty 22 = some (tX 22) := by show tyP Tryd.prog 22 = _; kernel_rfl
theorem c_ty24 : (C gl).ty 24 = some (tX 24) := by show tyP Tryd.prog 24 = _; kernel_rfl
theorem c_ty26 : (C gl).ty 26 = some (tX 26) := by show tyP Tryd.prog 26 = _; kernel_rfl
theorem c_ty27 : (C gl).ty 27 = some (tX 27) := by show tyP Tryd.prog 27 = _; kernel_rfl
theorem c_ty30 : (C gl).ty 30 = some (tX 30) := by show tyP Tryd.prog 30 = _; kernel_rfl
theorem c_ty31 : (C gl).ty 31 = some (tX 31) := by show tyP Tryd.prog 31 = _; kernel_rfl
theorem c_ty73 : (C gl).ty 73 = some (tX 73) := by show tyP Tryd.prog 73 = _; kernel_rfl
theorem c_ty91 : (C gl).ty 91 = some (tX 91) := by show tyP Tryd.prog 91 = _; kernel_rfl
theorem c_ty93 : (C gl).ty 93 = some (tX 93) := by show tyP Tryd.prog 93 = _; kernel_rfl
theorem c_ty95 : (C gl).ty 95 = some (tX 95) := by show tyP Tryd.prog 95 = _; kernel_rfl
theorem c_ty96 : (C gl).ty 96 = some (tX 96) := by show tyP Tryd.prog 96 = _; kernel_rfl
theorem c_ty98 : (C gl).ty 98 = some (tX 98) := by show tyP Tryd.prog 98 = _; kernel_rfl
theorem c_ty100 : (C gl).ty 100 = some (tX 100) := by show tyP Tryd.prog 100 = _; kernel_rfl
theorem c_ty101 : (C gl).ty 101 = some (tX 101) := by show tyP Tryd.prog 101 = _; kernel_rfl
theorem c_ty102 : (C gl).ty 102 = some (tX 102) := by show tyP Tryd.prog 102 = _; kernel_rfl
theorem c_ty104 : (C gl).ty 104 = some (tX 104) := by show tyP Tryd.prog 104 = _; kernel_rfl
theorem c_ty113 : (C gl).ty 113 = some (tX 113) := by show tyP Tryd.prog 113 = _; kernel_rfl
theorem c_ty115 : (C gl).ty 115 = some (tX 115) := by show tyP Tryd.prog 115 = _; kernel_rfl
theorem c_ty116 : (C gl).ty 116 = some (tX 116) := by show tyP Tryd.prog 116 = _; kernel_rfl
theorem c_ty146 : (C gl).ty 146 = some (tX 146) := by show tyP Tryd.prog 146 = _; kernel_rfl
theorem c_ty153 : (C gl).ty 153 = some (tX 153) := by show tyP Tryd.prog 153 = _; kernel_rfl
theorem c_ty161 : (C gl).ty 161 = some (tX 161) := by show tyP Tryd.prog 161 = _; kernel_rfl
theorem c_ty163 : (C gl).ty 163 = some (tX 163) := by show tyP Tryd.prog 163 = _; kernel_rfl
theorem c_ty165 : (C gl).ty 165 = some (tX 165) := by show tyP Tryd.prog 165 = _; kernel_rfl
theorem c_ty166 : (C gl).ty 166 = some (tX 166) := by show tyP Tryd.prog 166 = _; kernel_rfl
theorem c_ty176 : (C gl).ty 176 = some (tX 176) := by show tyP Tryd.prog 176 = _; kernel_rfl
theorem c_ty213 : (C gl).ty 213 = some (tX 213) := by show tyP Tryd.prog 213 = _; kernel_rfl
theorem sz2 : (tX 2).size = 1 := by kernel_rfl
theorem by2 : (tX 2).bytes = 8 := by kernel_rfl
theorem rd2 (cs : List AV) (k : Nat) : rdC (tX 2) cs k = cs.getD k .undef := rdC_one (by kernel_rfl) cs k
theorem ro2 (cs : List AV) (k : Nat) : rdOK (tX 2) cs k = (k + 1 ≤ cs.length) := rdOK_one (by kernel_rfl) sz2 cs k
theorem in2 : intT (C gl) 2 = some Go.IntKind.i64 := by kernel_rfl
theorem ze2 : ofV (tX 2).zero = .int Go.IntKind.i64 0 := by kernel_rfl
theorem zs2 : (tX 2).zero.cells.size = 1 := by kernel_rfl
theorem sz3 : (tX 3).size = 1 := by kernel_rfl
theorem by3 : (tX 3).bytes = 8 := by kernel_rfl
theorem rd3 (cs : List AV) (k : Nat) : rdC (tX 3) cs k = cs.getD k .undef := rdC_one (by kernel_rfl) cs k
theorem ro3 (cs : List AV) (k : Nat) : rdOK (tX 3) cs k = (k + 1 ≤ cs.length) := rdOK_one (by kernel_rfl) sz3 cs k
theorem in3 : intT (C gl) 3 = some Go.IntKind.i64 := by kernel_rfl
theorem ze3 : ofV (tX 3).zero = .int Go.IntKind.i64 0 := by kernel_rfl
theorem zs3 : (tX 3).zero.cells.size = 1 := by kernel_rfl
theorem sz4 : (tX 4).size = 1 := by kernel_rfl
theorem by4 : (tX 4).bytes = 1 := by kernel_rfl
theorem rd4 (cs : List AV) (k : Nat) : rdC (tX 4) cs k = cs.getD k .undef := rdC_one (by kernel_rfl) cs k
theorem ro4 (cs : List AV) (k : Nat) : rdOK (tX 4) cs k = (k + 1 ≤ cs.length) := rdOK_one (by kernel_rfl) sz4 cs k
theorem bo4 : isBoolT (C gl) 4 = true := by kernel_rfl
theorem ze4 : ofV (tX 4).zero = .bool false := by kernel_rfl
theorem zs4 : (tX 4).zero.cells.size = 1 := by kernel_rfl
theorem sz5 : (tX 5).size = 1 := by kernel_rfl
theorem by5 : (tX 5).bytes = 1 := by kernel_rfl
theorem rd5 (cs : List AV) (k : Nat) : rdC (tX 5) cs k = cs.getD k .undef := rdC_one (by kernel_rfl) cs k
theorem ro5 (cs : List AV) (k : Nat) : rdOK (tX 5) cs k = (k + 1 ≤ cs.length) := rdOK_one (by kernel_rfl) sz5 cs k
theorem in5 : intT (C gl) 5 = some Go.IntKind.u8 := by kernel_rfl
theorem ze5 : ofV (tX 5).zero = .int Go.IntKind.u8 0 := by kernel_rfl
theorem zs5 : (tX 5).zero.cells.size = 1 := by kernel_rfl
theorem sz6 : (tX 6).size = 1 := by kernel_rfl
theorem by6 : (tX 6).bytes = 1 := by kernel_rfl
theorem rd6 (cs : List AV) (k : Nat) : rdC (tX 6) cs k = cs.getD k .undef := rdC_one (by kernel_rfl) cs k
theorem ro6 (cs : List AV) (k : Nat) : rdOK (tX 6) cs k = (k + 1 ≤ cs.length) := rdOK_one (by kernel_rfl) sz6 cs k
theorem in6 : intT (C gl) 6 = some Go.IntKind.u8 := by kernel_rfl
theorem ze6 : ofV (tX 6).zero = .int Go.IntKind.u8 0 := by kernel_rfl
theorem zs6 : (tX 6).zero.cells.size = 1 := by kernel_rfl
theorem sz9 : (tX 9).size = 1 := by kernel_rfl
theorem by9 : (tX 9).bytes = 16 := by kernel_rfl
theorem rd9 (cs : List AV) (k : Nat) : rdC (tX 9) cs k = cs.getD k .undef := rdC_one (by kernel_rfl) cs k
theorem ro9 (cs : List AV) (k : Nat) : rdOK (tX 9) cs k = (k + 1 ≤ cs.length) := rdOK_one (by kernel_rfl) sz9 cs k
theorem st9 : isStrT (C gl) 9 = true := by kernel_rfl
theorem ze9 : ofV (tX 9).zero = .str .empty := by kernel_rfl
theorem zs9 : (tX 9).zero.cells.size = 1 := by kernel_rfl
theorem sz22 : (tX 22).size = 1 := by kernel_rfl
theorem by22 : (tX 22).bytes = 24 := by kernel_rfl
theorem rd22 (cs : List AV) (k : Nat) : rdC (tX 22) cs k = cs.getD k .undef := rdC_one (by kernel_rfl) cs k
theorem ro22 (cs : List AV) (k : Nat) : rdOK (tX 22) cs k = (k + 1 ≤ cs.length) := rdOK_one (by kernel_rfl) sz22 cs k
theorem sl22 : slE (C gl) 22 = some (tX 24) := by kernel_rfl
theorem ar22 : arE (C gl) 22 = none := by kernel_rfl
theorem ze22 : ofV (tX 22).zero = .list true [] := by kernel_rfl
theorem zs22 : (tX 22).zero.cells.size = 1 := by kernel_rfl
theorem sz24 : (tX 24).size = 3 := by kernel_rfl
theorem by24 : (tX 24).bytes = 40 := by kernel_rfl
theorem rd24 (cs : List AV) (k : Nat) : rdC (tX 24) cs k = .agg ((cs.drop k).take 3) := rdC_agg (by kernel_rfl) sz24 cs k
theorem ro24 (cs : List AV) (k : Nat) : rdOK (tX 24) cs k = (k + 3 ≤ cs.length) := rdOK_agg (by kernel_rfl) sz24 cs k
theorem fe24_0 : fldE (C gl) 24 0 = some (0, tX 3) := by kernel_rfl
theorem fe24_1 : fldE (C gl) 24 1 = some (1, tX 3) := by kernel_rfl
theorem fe24_2 : fldE (C gl) 24 2 = some (2, tX 22) := by kernel_rfl
def plc24 : Nat → Option (Nat × Nat)
  | 0 => some (0, 1)
  | 1 => some (1, 1)
  | 2 => some (2, 1)
  | _ => none
theorem bl24 : bldE (C gl) 24 = some ((ofV (tX 24).zero).cells, plc24) := by
  refine bldE_of (by kernel_rfl) ?_
  intro i
  match i with
  | 0 => show (bldE (C gl) 24).map (fun p => p.2 (0)) = some (plc24 (0)); kernel_rfl
  | 1 => show (bldE (C gl) 24).map (fun p => p.2 (1)) = some (plc24 (1)); kernel_rfl
  | 2 => show (bldE (C gl) 24).map (fun p => p.2 (2)) = some (plc24 (2)); kernel_rfl
  | n + 3 => show (bldE (C gl) 24).map (fun p => p.2 (n + 3)) = some (plc24 (n + 3)); kernel_rfl
theorem pl24_0 : plc24 0 = some (0, 1) := rfl
theorem pl24_1 : plc24 1 = some (1, 1) := rfl
theorem pl24_2 : plc24 2 = some (2, 1) := rfl
theorem ze24 : ofV (tX 24).zero = .agg [.int Go.IntKind.i64 0, .int Go.IntKind.i64 0, .list true []] := by kernel_rfl
theorem zs24 : (tX 24).zero.cells.size = 3 := by kernel_rfl
theorem sz26 : (tX 26).size = 16 := by kernel_rfl
theorem by26 : (tX 26).bytes = 224 := by kernel_rfl
theorem rd26 (cs : List AV) (k : Nat) : rdC (tX 26) cs k = .agg ((cs.drop k).take 16) := rdC_agg (by kernel_rfl) sz26 cs k
theorem ro26 (cs : List AV) (k : Nat) : rdOK (tX 26) cs k = (k + 16 ≤ cs.length) := rdOK_agg (by kernel_rfl) sz26 cs k
theorem fe26_0 : fldE (C gl) 26 0 = some (0, tX 3) := by kernel_rfl
theorem fe26_1 : fldE (C gl) 26 1 = some (1, tX 3) := by kernel_rfl
theorem fe26_2 : fldE (C gl) 26 2 = some (2, tX 24) := by kernel_rfl
theorem fe26_3 : fldE (C gl) 26 3 = some (5, tX 24) := by kernel_rfl
theorem fe26_4 : fldE (C gl) 26 4 = some (8, tX 24) := by kernel_rfl
theorem fe26_5 : fldE (C gl) 26 5 = some (11, tX 24) := by kernel_rfl
theorem fe26_6 : fldE (C gl) 26 6 = some (14, tX 22) := by kernel_rfl
theorem fe26_7 : fldE (C gl) 26 7 = some (15, tX 22) := by kernel_rfl
def plc26 : Nat → Option (Nat × Nat)
  | 0 => some (0, 1)
  | 1 => some (1, 1)
  | 2 => some (2, 3)
  | 3 => some (5, 3)
  | 4 => some (8, 3)
  | 5 => some (11, 3)
  | 6 => some (14, 1)
  | 7 => some (15, 1)
  | _ => none
theorem bl26 : bldE (C gl) 26 = some ((ofV (tX 26).zero).cells, plc26) := by
  refine bldE_of (by kernel_rfl) ?_
  intro i
  match i with
  | 0 => show (bldE (C gl) 26).map (fun p => p.2 (0)) = some (plc26 (0)); kernel_rfl
  | 1 => show (bldE (C gl) 26).map (fun p => p.2 (1)) = some (plc26 (1)); kernel_rfl
  | 2 => show (bldE (C gl) 26).map (fun p => p.2 (2)) = some (plc26 (2)); kernel_rfl
  | 3 => show (bldE (C gl) 26).map (fun p => p.2 (3)) = some (plc26 (3)); kernel_rfl
  | 4 => show (bldE (C gl) 26).map (fun p => p.2 (4)) = some (plc26 (4)); kernel_rfl
  | 5 => show (bldE (C gl) 26).map (fun p => p.2 (5)) = some (plc26 (5)); kernel_rfl
  | 6 => show (bldE (C gl) 26).map (fun p => p.2 (6)) = some (plc26 (6)); kernel_rfl
  | 7 => show (bldE (C gl) 26).map (fun p => p.2 (7)) = some (plc26 (7)); kernel_rfl
  | n + 8 => show (bldE (C gl) 26).map (fun p => p.2 (n + 8)) = some (plc26 (n + 8)); kernel_rfl
theorem pl26_0 : plc26 0 = some (0, 1) := rfl
theorem pl26_1 : plc26 1 = some (1, 1) := rfl
theorem pl26_2 : plc26 2 = some (2, 3) := rfl
theorem pl26_3 : plc26 3 = some (5, 3) := rfl
theorem pl26_4 : plc26 4 = some (8, 3) := rfl
theorem pl26_5 : plc26 5 = some (11, 3) := rfl
theorem pl26_6 : plc26 6 = some (14, 1) := rfl
theorem pl26_7 : plc26 7 = some (15, 1) := rfl
theorem ze26 : ofV (tX 26).zero = .agg [.int Go.IntKind.i64 0, .int Go.IntKind.i64 0, .int Go.IntKind.i64 0, .int Go.IntKind.i64 0, .list true [], .int Go.IntKind.i64 0, .int Go.IntKind.i64 0, .list true [], .int Go.IntKind.i64 0, .int Go.IntKind.i64 0, .list true [], .int Go.IntKind.i64 0, .int Go.IntKind.i64 0, .list true [], .list true [], .list true []] := by kernel_rfl
theorem zs26 : (tX 26).zero.cells.size = 16 := by kernel_rfl
theorem sz27 : (tX 27).size = 16 := by kernel_rfl
theorem by27 : (tX 27).bytes = 224 := by kernel_rfl
theorem rd27 (cs : List AV) (k : Nat) : rdC (tX 27) cs k = .agg ((cs.drop k).take 16) := rdC_agg (by kernel_rfl) sz27 cs k
theorem ro27 (cs : List AV) (k : Nat) : rdOK (tX 27) cs k = (k + 16 ≤ cs.length) := rdOK_agg (by kernel_rfl) sz27 cs k
theorem fe27_0 : fldE (C gl) 27 0 = some (0, tX 3) := by kernel_rfl
theorem fe27_1 : fldE (C gl) 27 1 = some (1, tX 3) := by kernel_rfl
theorem fe27_2 : fldE (C gl) 27 2 = some (2, tX 24) := by kernel_rfl
theorem fe27_3 : fldE (C gl) 27 3 = some (5, tX 24) := by kernel_rfl
theorem fe27_4 : fldE (C gl) 27 4 = some (8, tX 24) := by kernel_rfl
theorem fe27_5 : fldE (C gl) 27 5 = some (11, tX 24) := by kernel_rfl
theorem fe27_6 : fldE (C gl) 27 6 = some (14, tX 22) := by kernel_rfl
theorem fe27_7 : fldE (C gl) 27 7 = some (15, tX 22) := by kernel_rfl
def plc27 : Nat → Option (Nat × Nat)
  | 0 => some (0, 1)
  | 1 => some (1, 1)
  | 2 => some (2, 3)
  | 3 => some (5, 3)
  | 4 => some (8, 3)
  | 5 => some (11, 3)
  | 6 => some (14, 1)
  | 7 => some (15, 1)
  | _ => none
theorem bl27 : bldE (C gl) 27 = some ((ofV (tX 27).zero).cells, plc27) := by
  refine bldE_of (by kernel_rfl) ?_
  intro i
  match i with
  | 0 => show (bldE (C gl) 27).map (fun p => p.2 (0)) = some (plc27 (0)); kernel_rfl
  | 1 => show (bldE (C gl) 27).map (fun p => p.2 (1)) = some (plc27 (1)); kernel_rfl
  | 2 => show (bldE (C gl) 27).map (fun p => p.2 (2)) = some (plc27 (2)); kernel_rfl
  | 3 => show (bldE (C gl) 27).map (fun p => p.2 (3)) = some (plc27 (3)); kernel_rfl
  | 4 => show (bldE (C gl) 27).map (fun p => p.2 (4)) = some (plc27 (4)); kernel_rfl
  | 5 => show (bldE (C gl) 27).map (fun p => p.2 (5)) = some (plc27 (5)); kernel_rfl
  | 6 => show (bldE (C gl) 27).map (fun p => p.2 (6)) = some (plc27 (6)); kernel_rfl
  | 7 => show (bldE (C gl) 27).map (fun p => p.2 (7)) = some (plc27 (7)); kernel_rfl
  | n + 8 => show (bldE (C gl) 27).map (fun p => p.2 (n + 8)) = some (plc27 (n + 8)); kernel_rfl
theorem pl27_0 : plc27 0 = some (0, 1) := rfl
theorem pl27_1 : plc27 1 = some (1, 1) := rfl
theorem pl27_2 : plc27 2 = some (2, 3) := rfl
theorem pl27_3 : plc27 3 = some (5, 3) := rfl
theorem pl27_4 : plc27 4 = some (8, 3) := rfl
theorem pl27_5 : plc27 5 = some (11, 3) := rfl
theorem pl27_6 : plc27 6 = some (14, 1) := rfl
theorem pl27_7 : plc27 7 = some (15, 1) := rfl
theorem ze27 : ofV (tX 27).zero = .agg [.int Go.IntKind.i64 0, .int Go.IntKind.i64 0, .int Go.IntKind.i64 0, .int Go.IntKind.i64 0, .list true [], .int Go.IntKind.i64 0, .int Go.IntKind.i64 0, .list true [], .int Go.IntKind.i64 0, .int Go.IntKind.i64 0, .list true [], .int Go.IntKind.i64 0, .int Go.IntKind.i64 0, .list true [], .list true [], .list true []] := by kernel_rfl
theorem zs27 : (tX 27).zero.cells.size = 16 := by kernel_rfl
theorem sz30 : (tX 30).size = 1 := by kernel_rfl
theorem by30 : (tX 30).bytes = 24 := by kernel_rfl
theorem rd30 (cs : List AV) (k : Nat) : rdC (tX 30) cs k = cs.getD k .undef := rdC_one (by kernel_rfl) cs k
theorem ro30 (cs : List AV) (k : Nat) : rdOK (tX 30) cs k = (k + 1 ≤ cs.length) := rdOK_one (by kernel_rfl) sz30 cs k
theorem sl30 : slE (C gl) 30 = some (tX 4) := by kernel_rfl
theorem ar30 : arE (C gl) 30 = none := by kernel_rfl
theorem ze30 : ofV (tX 30).zero = .list true [] := by kernel_rfl
theorem zs30 : (tX 30).zero.cells.size = 1 := by kernel_rfl
theorem sz31 : (tX 31).size = 1 := by kernel_rfl
theorem by31 : (tX 31).bytes = 8 := by kernel_rfl
theorem rd31 (cs : List AV) (k : Nat) : rdC (tX 31) cs k = cs.getD k .undef := rdC_one (by kernel_rfl) cs k
theorem ro31 (cs : List AV) (k : Nat) : rdOK (tX 31) cs k = (k + 1 ≤ cs.length) := rdOK_one (by kernel_rfl) sz31 cs k
theorem in31 : intT (C gl) 31 = some Go.IntKind.i64 := by kernel_rfl
theorem ze31 : ofV (tX 31).zero = .int Go.IntKind.i64 0 := by kernel_rfl
theorem zs31 : (tX 31).zero.cells.size = 1 := by kernel_rfl
theorem sz73 : (tX 73).size = 1 := by kernel_rfl
theorem by73 : (tX 73).bytes = 8 := by kernel_rfl
theorem rd73 (cs : List AV) (k : Nat) : rdC (tX 73) cs k = cs.getD k .undef := rdC_one (by kernel_rfl) cs k
theorem ro73 (cs : List AV) (k : Nat) : rdOK (tX 73) cs k = (k + 1 ≤ cs.length) := rdOK_one (by kernel_rfl) sz73 cs k
theorem ze73 : ofV (tX 73).zero = .nilf := by kernel_rfl
theorem zs73 : (tX 73).zero.cells.size = 1 := by kernel_rfl
theorem sz91 : (tX 91).size = 1 := by kernel_rfl
theorem by91 : (tX 91).bytes = 8 := by kernel_rfl
theorem rd91 (cs : List AV) (k : Nat) : rdC (tX 91) cs k = cs.getD k .undef := rdC_one (by kernel_rfl) cs k
theorem ro91 (cs : List AV) (k : Nat) : rdOK (tX 91) cs k = (k + 1 ≤ cs.length) := rdOK_one (by kernel_rfl) sz91 cs k
theorem ze91 : ofV (tX 91).zero = .nilp := by kernel_rfl
theorem zs91 : (tX 91).zero.cells.size = 1 := by kernel_rfl
theorem sz93 : (tX 93).size = 1 := by kernel_rfl
theorem by93 : (tX 93).bytes = 8 := by kernel_rfl
theorem rd93 (cs : List AV) (k : Nat) : rdC (tX 93) cs k = cs.getD k .undef := rdC_one (by kernel_rfl) cs k
theorem ro93 (cs : List AV) (k : Nat) : rdOK (tX 93) cs k = (k + 1 ≤ cs.length) := rdOK_one (by kernel_rfl) sz93 cs k
theorem in93 : intT (C gl) 93 = some Go.IntKind.u64 := by kernel_rfl
theorem ze93 : ofV (tX 93).zero = .int Go.IntKind.u64 0 := by kernel_rfl
theorem zs93 : (tX 93).zero.cells.size = 1 := by kernel_rfl
theorem sz95 : (tX 95).size = 1 := by kernel_rfl
theorem by95 : (tX 95).bytes = 24 := by kernel_rfl
theorem rd95 (cs : List AV) (k : Nat) : rdC (tX 95) cs k = cs.getD k .undef := rdC_one (by kernel_rfl) cs k
theorem ro95 (cs : List AV) (k : Nat) : rdOK (tX 95) cs k = (k + 1 ≤ cs.length) := rdOK_one (by kernel_rfl) sz95 cs k
theorem sl95 : slE (C gl) 95 = some (tX 93) := by kernel_rfl
theorem ar95 : arE (C gl) 95 = none := by kernel_rfl
theorem ze95 : ofV (tX 95).zero = .list true [] := by kernel_rfl
theorem zs95 : (tX 95).zero.cells.size = 1 := by kernel_rfl
theorem sz96 : (tX 96).size = 1 := by kernel_rfl
theorem by96 : (tX 96).bytes = 24 := by kernel_rfl
theorem rd96 (cs : List AV) (k : Nat) : rdC (tX 96) cs k = cs.getD k .undef := rdC_one (by kernel_rfl) cs k
theorem ro96 (cs : List AV) (k : Nat) : rdOK (tX 96) cs k = (k + 1 ≤ cs.length) := rdOK_one (by kernel_rfl) sz96 cs k
theorem sl96 : slE (C gl) 96 = some (tX 161) := by kernel_rfl
theorem ar96 : arE (C gl) 96 = none := by kernel_rfl
theorem ze96 : ofV (tX 96).zero = .list true [] := by kernel_rfl
theorem zs96 : (tX 96).zero.cells.size = 1 := by kernel_rfl
theorem sz98 : (tX 98).size = 20 := by kernel_rfl
theorem by98 : (tX 98).bytes = 304 := by kernel_rfl
theorem rd98 (cs : List AV) (k : Nat) : rdC (tX 98) cs k = .agg ((cs.drop k).take 20) := rdC_agg (by kernel_rfl) sz98 cs k
theorem ro98 (cs : List AV) (k : Nat) : rdOK (tX 98) cs k = (k + 20 ≤ cs.length) := rdOK_agg (by kernel_rfl) sz98 cs k
theorem fe98_0 : fldE (C gl) 98 0 = some (0, tX 27) := by kernel_rfl
theorem fe98_1 : fldE (C gl) 98 1 = some (16, tX 3) := by kernel_rfl
theorem fe98_2 : fldE (C gl) 98 2 = some (17, tX 95) := by kernel_rfl
theorem fe98_3 : fldE (C gl) 98 3 = some (18, tX 95) := by kernel_rfl
theorem fe98_4 : fldE (C gl) 98 4 = some (19, tX 96) := by kernel_rfl
def plc98 : Nat → Option (Nat × Nat)
  | 0 => some (0, 16)
  | 1 => some (16, 1)
  | 2 => some (17, 1)
  | 3 => some (18, 1)
  | 4 => some (19, 1)
  | _ => none
theorem bl98 : bldE (C gl) 98 = some ((ofV (tX 98).zero).cells, plc98) := by
  refine bldE_of (by kernel_rfl) ?_
  intro i
  match i with
  | 0 => show (bldE (C gl) 98).map (fun p => p.2 (0)) = some (plc98 (0)); kernel_rfl
  | 1 => show (bldE (C gl) 98).map (fun p => p.2 (1)) = some (plc98 (1)); kernel_rfl
  | 2 => show (bldE (C gl) 98).map (fun p => p.2 (2)) = some (plc98 (2)); kernel_rfl
  | 3 => show (bldE (C gl) 98).map (fun p => p.2 (3)) = some (plc98 (3)); kernel_rfl
  | 4 => show (bldE (C gl) 98).map (fun p => p.2 (4)) = some (plc98 (4)); kernel_rfl
  | n + 5 => show (bldE (C gl) 98).map (fun p => p.2 (n + 5)) = some (plc98 (n + 5)); kernel_rfl
theorem pl98_0 : plc98 0 = some (0, 16) := rfl
theorem pl98_1 : plc98 1 = some (16, 1) := rfl
theorem pl98_2 : plc98 2 = some (17, 1) := rfl
theorem pl98_3 : plc98 3 = some (18, 1) := rfl
theorem pl98_4 : plc98 4 = some (19, 1) := rfl
theorem ze98 : ofV (tX 98).zero = .agg [.int Go.IntKind.i64 0, .int Go.IntKind.i64 0, .int Go.IntKind.i64 0, .int Go.IntKind.i64 0, .list true [], .int Go.IntKind.i64 0, .int Go.IntKind.i64 0, .list true [], .int Go.IntKind.i64 0, .int Go.IntKind.i64 0, .list true [], .int Go.IntKind.i64 0, .int Go.IntKind.i64 0, .list true [], .list true [], .list true [], .int Go.IntKind.i64 0, .list true [], .list true [], .list true []] := by kernel_rfl
theorem zs98 : (tX 98).zero.cells.size = 20 := by kernel_rfl
theorem sz100 : (tX 100).size = 1 := by kernel_rfl
theorem by100 : (tX 100).bytes = 8 := by kernel_rfl
theorem rd100 (cs : List AV) (k : Nat) : rdC (tX 100) cs k = cs.getD k .undef := rdC_one (by kernel_rfl) cs k
theorem ro100 (cs : List AV) (k : Nat) : rdOK (tX 100) cs k = (k + 1 ≤ cs.length) := rdOK_one (by kernel_rfl) sz100 cs k
theorem ze100 : ofV (tX 100).zero = .nilf := by kernel_rfl
theorem zs100 : (tX 100).zero.cells.size = 1 := by kernel_rfl
theorem sz101 : (tX 101).size = 1 := by kernel_rfl
theorem by101 : (tX 101).bytes = 8 := by kernel_rfl
theorem rd101 (cs : List AV) (k : Nat) : rdC (tX 101) cs k = cs.getD k .undef := rdC_one (by kernel_rfl) cs k
theorem ro101 (cs : List AV) (k : Nat) : rdOK (tX 101) cs k = (k + 1 ≤ cs.length) := rdOK_one (by kernel_rfl) sz101 cs k
theorem ze101 : ofV (tX 101).zero = .nilf := by kernel_rfl
theorem zs101 : (tX 101).zero.cells.size = 1 := by kernel_rfl
theorem sz102 : (tX 102).size = 1 := by kernel_rfl
theorem by102 : (tX 102).bytes = 24 := by kernel_rfl
theorem rd102 (cs : List AV) (k : Nat) : rdC (tX 102) cs k = cs.getD k .undef := rdC_one (by kernel_rfl) cs k
theorem ro102 (cs : List AV) (k : Nat) : rdOK (tX 102) cs k = (k + 1 ≤ cs.length) := rdOK_one (by kernel_rfl) sz102 cs k
theorem sl102 : slE (C gl) 102 = some (tX 104) := by kernel_rfl
theorem ar102 : arE (C gl) 102 = none := by kernel_rfl
theorem ze102 : ofV (tX 102).zero = .list true [] := by kernel_rfl
theorem zs102 : (tX 102).zero.cells.size = 1 := by kernel_rfl
theorem sz104 : (tX 104).size = 4 := by kernel_rfl
theorem by104 : (tX 104).bytes = 32 := by kernel_rfl
theorem rd104 (cs : List AV) (k : Nat) : rdC (tX 104) cs k = .agg ((cs.drop k).take 4) := rdC_agg (by kernel_rfl) sz104 cs k
theorem ro104 (cs : List AV) (k : Nat) : rdOK (tX 104) cs k = (k + 4 ≤ cs.length) := rdOK_agg (by kernel_rfl) sz104 cs k
theorem fe104_0 : fldE (C gl) 104 0 = some (0, tX 3) := by kernel_rfl
theorem fe104_1 : fldE (C gl) 104 1 = some (1, tX 3) := by kernel_rfl
theorem fe104_2 : fldE (C gl) 104 2 = some (2, tX 3) := by kernel_rfl
theorem fe104_3 : fldE (C gl) 104 3 = some (3, tX 3) := by kernel_rfl
def plc104 : Nat → Option (Nat × Nat)
  | 0 => some (0, 1)
  | 1 => some (1, 1)
  | 2 => some (2, 1)
  | 3 => some (3, 1)
  | _ => none
theorem bl104 : bldE (C gl) 104 = some ((ofV (tX 104).zero).cells, plc104) := by
  refine bldE_of (by kernel_rfl) ?_
  intro i
  match i with
  | 0 => show (bldE (C gl) 104).map (fun p => p.2 (0)) = some (plc104 (0)); kernel_rfl
  | 1 => show (bldE (C gl) 104).map (fun p => p.2 (1)) = some (plc104 (1)); kernel_rfl
  | 2 => show (bldE (C gl) 104).map (fun p => p.2 (2)) = some (plc104 (2)); kernel_rfl
  | 3 => show (bldE (C gl) 104).map (fun p => p.2 (3)) = some (plc104 (3)); kernel_rfl
  | n + 4 => show (bldE (C gl) 104).map (fun p => p.2 (n + 4)) = some (plc104 (n + 4)); kernel_rfl
theorem pl104_0 : plc104 0 = some (0, 1) := rfl
theorem pl104_1 : plc104 1 = some (1, 1) := rfl
theorem pl104_2 : plc104 2 = some (2, 1) := rfl
theorem pl104_3 : plc104 3 = some (3, 1) := rfl
theorem ze104 : ofV (tX 104).zero = .agg [.int Go.IntKind.i64 0, .int Go.IntKind.i64 0, .int Go.IntKind.i64 0, .int Go.IntKind.i64 0] := by kernel_rfl
theorem zs104 : (tX 104).zero.cells.size = 4 := by kernel_rfl
theorem sz113 : (tX 113).size = 1 := by kernel_rfl
theorem by113 : (tX 113).bytes = 24 := by kernel_rfl
theorem rd113 (cs : List AV) (k : Nat) : rdC (tX 113) cs k = cs.getD k .undef := rdC_one (by kernel_rfl) cs k
theorem ro113 (cs : List AV) (k : Nat) : rdOK (tX 113) cs k = (k + 1 ≤ cs.length) := rdOK_one (by kernel_rfl) sz113 cs k
theorem sl113 : slE (C gl) 113 = some (tX 116) := by kernel_rfl
theorem ar113 : arE (C gl) 113 = none := by kernel_rfl
theorem ze113 : ofV (tX 113).zero = .list true [] := by kernel_rfl
theorem zs113 : (tX 113).zero.cells.size = 1 := by kernel_rfl
theorem sz115 : (tX 115).size = 3 := by kernel_rfl
theorem by115 : (tX 115).bytes = 40 := by kernel_rfl
theorem rd115 (cs : List AV) (k : Nat) : rdC (tX 115) cs k = .agg ((cs.drop k).take 3) := rdC_agg (by kernel_rfl) sz115 cs k
theorem ro115 (cs : List AV) (k : Nat) : rdOK (tX 115) cs k = (k + 3 ≤ cs.length) := rdOK_agg (by kernel_rfl) sz115 cs k
theorem fe115_0 : fldE (C gl) 115 0 = some (0, tX 91) := by kernel_rfl
theorem fe115_1 : fldE (C gl) 115 1 = some (1, tX 93) := by kernel_rfl
theorem fe115_2 : fldE (C gl) 115 2 = some (2, tX 113) := by kernel_rfl
def plc115 : Nat → Option (Nat × Nat)
  | 0 => some (0, 1)
  | 1 => some (1, 1)
  | 2 => some (2, 1)
  | _ => none
theorem bl115 : bldE (C gl) 115 = some ((ofV (tX 115).zero).cells, plc115) := by
  refine bldE_of (by kernel_rfl) ?_
  intro i
  match i with
  | 0 => show (bldE (C gl) 115).map (fun p => p.2 (0)) = some (plc115 (0)); kernel_rfl
  | 1 => show (bldE (C gl) 115).map (fun p => p.2 (1)) = some (plc115 (1)); kernel_rfl
  | 2 => show (bldE (C gl) 115).map (fun p => p.2 (2)) = some (plc115 (2)); kernel_rfl
  | n + 3 => show (bldE (C gl) 115).map (fun p => p.2 (n + 3)) = some (plc115 (n + 3)); kernel_rfl
theorem pl115_0 : plc115 0 = some (0, 1) := rfl
theorem pl115_1 : plc115 1 = some (1, 1) := rfl
theorem pl115_2 : plc115 2 = some (2, 1) := rfl
theorem ze115 : ofV (tX 115).zero = .agg [.nilp, .int Go.IntKind.u64 0, .list true []] := by kernel_rfl
theorem zs115 : (tX 115).zero.cells.size = 3 := by kernel_rfl
theorem sz116 : (tX 116).size = 1 := by kernel_rfl
theorem by116 : (tX 116).bytes = 24 := by kernel_rfl
theorem rd116 (cs : List AV) (k : Nat) : rdC (tX 116) cs k = cs.getD k .undef := rdC_one (by kernel_rfl) cs k
theorem ro116 (cs : List AV) (k : Nat) : rdOK (tX 116) cs k = (k + 1 ≤ cs.length) := rdOK_one (by kernel_rfl) sz116 cs k
theorem sl116 : slE (C gl) 116 = some (tX 176) := by kernel_rfl
theorem ar116 : arE (C gl) 116 = none := by kernel_rfl
theorem ze116 : ofV (tX 116).zero = .list true [] := by kernel_rfl
theorem zs116 : (tX 116).zero.cells.size = 1 := by kernel_rfl
theorem sz146 : (tX 146).size = 1 := by kernel_rfl
theorem by146 : (tX 146).bytes = 8 := by kernel_rfl
theorem rd146 (cs : List AV) (k : Nat) : rdC (tX 146) cs k = cs.getD k .undef := rdC_one (by kernel_rfl) cs k
theorem ro146 (cs : List AV) (k : Nat) : rdOK (tX 146) cs k = (k + 1 ≤ cs.length) := rdOK_one (by kernel_rfl) sz146 cs k
theorem ze146 : ofV (tX 146).zero = .nilf := by kernel_rfl
theorem zs146 : (tX 146).zero.cells.size = 1 := by kernel_rfl
theorem sz153 : (tX 153).size = 14 := by kernel_rfl
theorem by153 : (tX 153).bytes = 112 := by kernel_rfl
theorem rd153 (cs : List AV) (k : Nat) : rdC (tX 153) cs k = .agg ((cs.drop k).take 14) := rdC_agg (by kernel_rfl) sz153 cs k
theorem ro153 (cs : List AV) (k : Nat) : rdOK (tX 153) cs k = (k + 14 ≤ cs.length) := rdOK_agg (by kernel_rfl) sz153 cs k
theorem ar153 : arE (C gl) 153 = some (14, tX 3) := by kernel_rfl
theorem ze153 : ofV (tX 153).zero = .agg [.int Go.IntKind.i64 0, .int Go.IntKind.i64 0, .int Go.IntKind.i64 0, .int Go.IntKind.i64 0, .int Go.IntKind.i64 0, .int Go.IntKind.i64 0, .int Go.IntKind.i64 0, .int Go.IntKind.i64 0, .int Go.IntKind.i64 0, .int Go.IntKind.i64 0, .int Go.IntKind.i64 0, .int Go.IntKind.i64 0, .int Go.IntKind.i64 0, .int Go.IntKind.i64 0] := by kernel_rfl
theorem zs153 : (tX 153).zero.cells.size = 14 := by kernel_rfl
theorem sz161 : (tX 161).size = 1 := by kernel_rfl
theorem by161 : (tX 161).bytes = 24 := by kernel_rfl
theorem rd161 (cs : List AV) (k : Nat) : rdC (tX 161) cs k = cs.getD k .undef := rdC_one (by kernel_rfl) cs k
theorem ro161 (cs : List AV) (k : Nat) : rdOK (tX 161) cs k = (k + 1 ≤ cs.length) := rdOK_one (by kernel_rfl) sz161 cs k
theorem sl161 : slE (C gl) 161 = some (tX 163) := by kernel_rfl
theorem ar161 : arE (C gl) 161 = none := by kernel_rfl
theorem ze161 : ofV (tX 161).zero = .list true [] := by kernel_rfl
theorem zs161 : (tX 161).zero.cells.size = 1 := by kernel_rfl
theorem sz163 : (tX 163).size = 2 := by kernel_rfl
theorem by163 : (tX 163).bytes = 16 := by kernel_rfl
theorem rd163 (cs : List AV) (k : Nat) : rdC (tX 163) cs k = .agg ((cs.drop k).take 2) := rdC_agg (by kernel_rfl) sz163 cs k
theorem ro163 (cs : List AV) (k : Nat) : rdOK (tX 163) cs k = (k + 2 ≤ cs.length) := rdOK_agg (by kernel_rfl) sz163 cs k
theorem fe163_0 : fldE (C gl) 163 0 = some (0, tX 4) := by kernel_rfl
theorem fe163_1 : fldE (C gl) 163 1 = some (1, tX 93) := by kernel_rfl
def plc163 : Nat → Option (Nat × Nat)
  | 0 => some (0, 1)
  | 1 => some (1, 1)
  | _ => none
theorem bl163 : bldE (C gl) 163 = some ((ofV (tX 163).zero).cells, plc163) := by
  refine bldE_of (by kernel_rfl) ?_
  intro i
  match i with
  | 0 => show (bldE (C gl) 163).map (fun p => p.2 (0)) = some (plc163 (0)); kernel_rfl
  | 1 => show (bldE (C gl) 163).map (fun p => p.2 (1)) = some (plc163 (1)); kernel_rfl
  | n + 2 => show (bldE (C gl) 163).map (fun p => p.2 (n + 2)) = some (plc163 (n + 2)); kernel_rfl
theorem pl163_0 : plc163 0 = some (0, 1) := rfl
theorem pl163_1 : plc163 1 = some (1, 1) := rfl
theorem ze163 : ofV (tX 163).zero = .agg [.bool false, .int Go.IntKind.u64 0] := by kernel_rfl
theorem zs163 : (tX 163).zero.cells.size = 2 := by kernel_rfl
theorem sz165 : (tX 165).size = 1 := by kernel_rfl
theorem by165 : (tX 165).bytes = 8 := by kernel_rfl
theorem rd165 (cs : List AV) (k : Nat) : rdC (tX 165) cs k = cs.getD k .undef := rdC_one (by kernel_rfl) cs k
theorem ro165 (cs : List AV) (k : Nat) : rdOK (tX 165) cs k = (k + 1 ≤ cs.length) := rdOK_one (by kernel_rfl) sz165 cs k
theorem ze165 : ofV (tX 165).zero = .nilf := by kernel_rfl
theorem zs165 : (tX 165).zero.cells.size = 1 := by kernel_rfl
theorem sz166 : (tX 166).size = 1 := by kernel_rfl
theorem by166 : (tX 166).bytes = 8 := by kernel_rfl
theorem rd166 (cs : List AV) (k : Nat) : rdC (tX 166) cs k = cs.getD k .undef := rdC_one (by kernel_rfl) cs k
theorem ro166 (cs : List AV) (k : Nat) : rdOK (tX 166) cs k = (k + 1 ≤ cs.length) := rdOK_one (by kernel_rfl) sz166 cs k
theorem ze166 : ofV (tX 166).zero = .nilf := by kernel_rfl
theorem zs166 : (tX 166).zero.cells.size = 1 := by kernel_rfl
theorem sz176 : (tX 176).size = 2 := by kernel_rfl
theorem by176 : (tX 176).bytes = 32 := by kernel_rfl
theorem rd176 (cs : List AV) (k : Nat) : rdC (tX 176) cs k = .agg ((cs.drop k).take 2) := rdC_agg (by kernel_rfl) sz176 cs k
theorem ro176 (cs : List AV) (k : Nat) : rdOK (tX 176) cs k = (k + 2 ≤ cs.length) := rdOK_agg (by kernel_rfl) sz176 cs k
theorem fe176_0 : fldE (C gl) 176 0 = some (0, tX 93) := by kernel_rfl
theorem fe176_1 : fldE (C gl) 176 1 = some (1, tX 95) := by kernel_rfl
def plc176 : Nat → Option (Nat × Nat)
  | 0 => some (0, 1)
  | 1 => some (1, 1)
  | _ => none
theorem bl176 : bldE (C gl) 176 = some ((ofV (tX 176).zero).cells, plc176) := by
  refine bldE_of (by kernel_rfl) ?_
  intro i
  match i with
  | 0 => show (bldE (C gl) 176).map (fun p => p.2 (0)) = some (plc176 (0)); kernel_rfl
  | 1 => show (bldE (C gl) 176).map (fun p => p.2 (1)) = some (plc176 (1)); kernel_rfl
  | n + 2 => show (bldE (C gl) 176).map (fun p => p.2 (n + 2)) = some (plc176 (n + 2)); kernel_rfl
theorem pl176_0 : plc176 0 = some (0, 1) := rfl
theorem pl176_1 : plc176 1 = some (1, 1) := rfl
theorem ze176 : ofV (tX 176).zero = .agg [.int Go.IntKind.u64 0, .list true []] := by kernel_rfl
theorem zs176 : (tX 176).zero.cells.size = 2 := by kernel_rfl
theorem sz213 : (tX 213).size = 1 := by kernel_rfl
theorem by213 : (tX 213).bytes = 8 := by kernel_rfl
theorem rd213 (cs : List AV) (k : Nat) : rdC (tX 213) cs k = cs.getD k .undef := rdC_one (by kernel_rfl) cs k
theorem ro213 (cs : List AV) (k : Nat) : rdOK (tX 213) cs k = (k + 1 ≤ cs.length) := rdOK_one (by kernel_rfl) sz213 cs k
theorem ze213 : ofV (tX 213).zero = .nilf := by kernel_rfl
theorem zs213 : (tX 213).zero.cells.size = 1 := by kernel_rfl
end
attribute [go_sem] c_ty2 c_ty3 c_ty4 c_ty5 c_ty6 c_ty9 c_ty22 c_ty24 c_ty26 c_ty27 c_ty30 c_ty31 c_ty73 c_ty91 c_ty93 c_ty95 c_ty96 c_ty98 c_ty100 c_ty101 c_ty102 c_ty104 c_ty113 c_ty115 c_ty116 c_ty146 c_ty153 c_ty161 c_ty163 c_ty165 c_ty166 c_ty176 c_ty213 sz2 by2 rd2 ro2 in2 ze2 zs2 sz3 by3 rd3 ro3 in3 ze3 zs3 sz4 by4 rd4 ro4 bo4 ze4 zs4 sz5 by5 rd5 ro5 in5 ze5 zs5 sz6 by6 rd6 ro6 in6 ze6 zs6 sz9 by9 rd9 ro9 st9 ze9 zs9 sz22 by22 rd22 ro22 sl22 ar22 ze22 zs22 sz24 by24 rd24 ro24 fe24_0 fe24_1 fe24_2 bl24 pl24_0 pl24_1 pl24_2 ze24 zs24 sz26 by26 rd26 ro26 fe26_0 fe26_1 fe26_2 fe26_3 fe26_4 fe26_5 fe26_6 fe26_7 bl26 pl26_0 pl26_1 pl26_2 pl26_3 pl26_4 pl26_5 pl26_6 pl26_7 ze26 zs26 sz27 by27 rd27 ro27 fe27_0 fe27_1 fe27_2 fe27_3 fe27_4 fe27_5 fe27_6 fe27_7 bl27 pl27_0 pl27_1 pl27_2 pl27_3 pl27_4 pl27_5 pl27_6 pl27_7 ze27 zs27 sz30 by30 rd30 ro30 sl30 ar30 ze30 zs30 sz31 by31 rd31 ro31 in31 ze31 zs31 sz73 by73 rd73 ro73 ze73 zs73 sz91 by91 rd91 ro91 ze91 zs91 sz93 by93 rd93 ro93 in93 ze93 zs93 sz95 by95 rd95 ro95 sl95 ar95 ze95 zs95 sz96 by96 rd96 ro96 sl96 ar96 ze96 zs96 sz98 by98 rd98 ro98 fe98_0 fe98_1 fe98_2 fe98_3 fe98_4 bl98 pl98_0 pl98_1 pl98_2 pl98_3 pl98_4 ze98 zs98 sz100 by100 rd100 ro100 ze100 zs100 sz101 by101 rd101 ro101 ze101 zs101 sz102 by102 rd102 ro102 sl102 ar102 ze102 zs102 sz104 by104 rd104 ro104 fe104_0 fe104_1 fe104_2 fe104_3 bl104 pl104_0 pl104_1 pl104_2 pl104_3 ze104 zs104 sz113 by113 rd113 ro113 sl113 ar113 ze113 zs113 sz115 by115 rd115 ro115 fe115_0 fe115_1 fe115_2 bl115 pl115_0 pl115_1 pl115_2 ze115 zs115 sz116 by116 rd116 ro116 sl116 ar116 ze116 zs116 sz146 by146 rd146 ro146 ze146 zs146 sz153 by153 rd153 ro153 ar153 ze153 zs153 sz161 by161 rd161 ro161 sl161 ar161 ze161 zs161 sz163 by163 rd163 ro163 fe163_0 fe163_1 bl163 pl163_0 pl163_1 ze163 zs163 sz165 by165 rd165 ro165 ze165 zs165 sz166 by166 rd166 ro166 ze166 zs166 sz176 by176 rd176 ro176 fe176_0 fe176_1 bl176 pl176_0 pl176_1 ze176 zs176 sz213 by213 rd213 ro213 ze213 zs213
section
variable {gl : GL}
theorem c_ty20 : (C gl).ty 20 = some (tX 20) := by show tyP Tryd.prog 20 = _; kernel_rfl
theorem c_ty229 : (C gl).ty 229 = some (tX 229) := by show tyP Tryd.prog 229 = _; kernel_rfl
theorem sz20 : (tX 20).size = 1 := by kernel_rfl
theorem by20 : (tX 20).bytes = 16 := by kernel_rfl
theorem rd20 (cs : List AV) (k : Nat) : rdC (tX 20) cs k = cs.getD k .undef := rdC_one (by kernel_rfl) cs k
theorem ro20 (cs : List AV) (k : Nat) : rdOK (tX 20) cs k = (k + 1 ≤ cs.length) := rdOK_one (by kernel_rfl) sz20 cs k
theorem ze20 : ofV (tX 20).zero = .nili := by kernel_rfl
theorem zs20 : (tX 20).zero.cells.size = 1 := by kernel_rfl
theorem sz229 : (tX 229).size = 256 := by kernel_rfl
theorem by229 : (tX 229).bytes = 256 := by kernel_rfl
theorem rd229 (cs : List AV) (k : Nat) : rdC (tX 229) cs k = .agg ((cs.drop k).take 256) := rdC_agg (by kernel_rfl) sz229 cs k
theorem ro229 (cs : List AV) (k : Nat) : rdOK (tX 229) cs k = (k + 256 ≤ cs.length) := rdOK_agg (by kernel_rfl) sz229 cs k
theorem ar229 : arE (C gl) 229 = some (256, tX 4) := by kernel_rfl
theorem zs229 : (tX 229).zero.cells.size = 256 := by kernel_rfl
end
attribute [go_sem] c_ty20 c_ty229 sz20 by20 rd20 ro20 ze20 zs20 sz229 by229 rd229 ro229 ar229 zs229
section
variable {gl : GL}
theorem c_ty46 : (C gl).ty 46 = some (tX 46) := by show tyP Tryd.prog 46 = _; kernel_rfl
theorem sz46 : (tX 46).size = 1 := by kernel_rfl
theorem by46 : (tX 46).bytes = 24 := by kernel_rfl
theorem rd46 (cs : List AV) (k : Nat) : rdC (tX 46) cs k = cs.getD k .undef := rdC_one (by kernel_rfl) cs k
theorem ro46 (cs : List AV) (k : Nat) : rdOK (tX 46) cs k = (k + 1 ≤ cs.length) := rdOK_one (by kernel_rfl) sz46 cs k
theorem sl46 : slE (C gl) 46 = some (tX 27) := by kernel_rfl
theorem ar46 : arE (C gl) 46 = none := by kernel_rfl
theorem ze46 : ofV (tX 46).zero = .list true [] := by kernel_rfl
theorem zs46 : (tX 46).zero.cells.size = 1 := by kernel_rfl
end
attribute [go_sem] c_ty46 sz46 by46 rd46 ro46 sl46 ar46 ze46 zs46
section
variable {gl : GL}
end
section
variable {gl : GL}
theorem c_ty21 : (C gl).ty 21 = some (tX 21) := by show tyP Tryd.prog 21 = _; kernel_rfl
theorem c_ty58 : (C gl).ty 58 = some (tX 58) := by show tyP Tryd.prog 58 = _; kernel_rfl
theorem c_ty69 : (C gl).ty 69 = some (tX 69) := by show tyP Tryd.prog 69 = _; kernel_rfl
theorem sz21 : (tX 21).size = 1 := by kernel_rfl
theorem by21 : (tX 21).bytes = 4 := by kernel_rfl
theorem rd21 (cs : List AV) (k : Nat) : rdC (tX 21) cs k = cs.getD k .undef := rdC_one (by kernel_rfl) cs k
theorem ro21 (cs : List AV) (k : Nat) : rdOK (tX 21) cs k = (k + 1 ≤ cs.length) := rdOK_one (by kernel_rfl) sz21 cs k
theorem in21 : intT (C gl) 21 = some Go.IntKind.i32 := by kernel_rfl
theorem ze21 : ofV (tX 21).zero = .int Go.IntKind.i32 0 := by kernel_rfl
theorem zs21 : (tX 21).zero.cells.size = 1 := by kernel_rfl
theorem sz58 : (tX 58).size = 1 := by kernel_rfl
theorem by58 : (tX 58).bytes = 8 := by kernel_rfl
theorem rd58 (cs : List AV) (k : Nat) : rdC (tX 58) cs k = cs.getD k .undef := rdC_one (by kernel_rfl) cs k
theorem ro58 (cs : List AV) (k : Nat) : rdOK (tX 58) cs k = (k + 1 ≤ cs.length) := rdOK_one (by kernel_rfl) sz58 cs k
theorem ze58 : ofV (tX 58).zero = .nilf := by kernel_rfl
theorem zs58 : (tX 58).zero.cells.size = 1 := by kernel_rfl
theorem sz69 : (tX 69).size = 1 := by kernel_rfl
theorem by69 : (tX 69).bytes = 24 := by kernel_rfl
theorem rd69 (cs : List AV) (k : Nat) : rdC (tX 69) cs k = cs.getD k .undef := rdC_one (by kernel_rfl) cs k
theorem ro69 (cs : List AV) (k : Nat) : rdOK (tX 69) cs k = (k + 1 ≤ cs.length) := rdOK_one (by kernel_rfl) sz69 cs k
theorem sl69 : slE (C gl) 69 = some (tX 3) := by kernel_rfl
theorem ar69 : arE (C gl) 69 = none := by kernel_rfl
theorem ze69 : ofV (tX 69).zero = .list true [] := by kernel_rfl
theorem zs69 : (tX 69).zero.cells.size = 1 := by kernel_rfl
end
attribute [go_sem] c_ty21 c_ty58 c_ty69 sz21 by21 rd21 ro21 in21 ze21 zs21 sz58 by58 rd58 ro58 ze58 zs58 sz69 by69 rd69 ro69 sl69 ar69 ze69 zs69
section
variable {gl : GL}
theorem c_ty40 : (C gl).ty 40 = some (tX 40) := by show tyP Tryd.prog 40 = _; kernel_rfl
theorem c_ty42 : (C gl).ty 42 = some (tX 42) := by show tyP Tryd.prog 42 = _; kernel_rfl
theorem c_ty106 : (C gl).ty 106 = some (tX 106) := by show tyP Tryd.prog 106 = _; kernel_rfl
theorem c_ty173 : (C gl).ty 173 = some (tX 173) := by show tyP Tryd.prog 173 = _; kernel_rfl
theorem c_ty209 : (C gl).ty 209 = some (tX 209) := by show tyP Tryd.prog 209 = _; kernel_rfl
theorem sz40 : (tX 40).size = 1 := by kernel_rfl
theorem by40 : (tX 40).bytes = 24 := by kernel_rfl
theorem rd40 (cs : List AV) (k : Nat) : rdC (tX 40) cs k = cs.getD k .undef := rdC_one (by kernel_rfl) cs k
theorem ro40 (cs : List AV) (k : Nat) : rdOK (tX 40) cs k = (k + 1 ≤ cs.length) := rdOK_one (by kernel_rfl) sz40 cs k
theorem sl40 : slE (C gl) 40 = some (tX 69) := by kernel_rfl
theorem ar40 : arE (C gl) 40 = none := by kernel_rfl
theorem ze40 : ofV (tX 40).zero = .list true [] := by kernel_rfl
theorem zs40 : (tX 40).zero.cells.size = 1 := by kernel_rfl
theorem sz42 : (tX 42).size = 4 := by kernel_rfl
theorem by42 : (tX 42).bytes = 64 := by kernel_rfl
theorem rd42 (cs : List AV) (k : Nat) : rdC (tX 42) cs k = .agg ((cs.drop k).take 4) := rdC_agg (by kernel_rfl) sz42 cs k
theorem ro42 (cs : List AV) (k : Nat) : rdOK (tX 42) cs k = (k + 4 ≤ cs.length) := rdOK_agg (by kernel_rfl) sz42 cs k
theorem fe42_0 : fldE (C gl) 42 0 = some (0, tX 3) := by kernel_rfl
theorem fe42_1 : fldE (C gl) 42 1 = some (1, tX 3) := by kernel_rfl
theorem fe42_2 : fldE (C gl) 42 2 = some (2, tX 40) := by kernel_rfl
theorem fe42_3 : fldE (C gl) 42 3 = some (3, tX 40) := by kernel_rfl
def plc42 : Nat → Option (Nat × Nat)
  | 0 => some (0, 1)
  | 1 => some (1, 1)
  | 2 => some (2, 1)
  | 3 => some (3, 1)
  | _ => none
theorem bl42 : bldE (C gl) 42 = some ((ofV (tX 42).zero).cells, plc42) := by
  refine bldE_of (by kernel_rfl) ?_
  intro i
  match i with
  | 0 => show (bldE (C gl) 42).map (fun p => p.2 (0)) = some (plc42 (0)); kernel_rfl
  | 1 => show (bldE (C gl) 42).map (fun p => p.2 (1)) = some (plc42 (1)); kernel_rfl
  | 2 => show (bldE (C gl) 42).map (fun p => p.2 (2)) = some (plc42 (2)); kernel_rfl
  | 3 => show (bldE (C gl) 42).map (fun p => p.2 (3)) = some (plc42 (3)); kernel_rfl
  | n + 4 => show (bldE (C gl) 42).map (fun p => p.2 (n + 4)) = some (plc42 (n + 4)); kernel_rfl
theorem pl42_0 : plc42 0 = some (0, 1) := rfl
theorem pl42_1 : plc42 1 = some (1, 1) := rfl
theorem pl42_2 : plc42 2 = some (2, 1) := rfl
theorem pl42_3 : plc42 3 = some (3, 1) := rfl
theorem ze42 : ofV (tX 42).zero = .agg [.int Go.IntKind.i64 0, .int Go.IntKind.i64 0, .list true [], .list true []] := by kernel_rfl
theorem zs42 : (tX 42).zero.cells.size = 4 := by kernel_rfl
theorem sz106 : (tX 106).size = 2 := by kernel_rfl
theorem by106 : (tX 106).bytes = 16 := by kernel_rfl
theorem rd106 (cs : List AV) (k : Nat) : rdC (tX 106) cs k = .agg ((cs.drop k).take 2) := rdC_agg (by kernel_rfl) sz106 cs k
theorem ro106 (cs : List AV) (k : Nat) : rdOK (tX 106) cs k = (k + 2 ≤ cs.length) := rdOK_agg (by kernel_rfl) sz106 cs k
theorem fe106_0 : fldE (C gl) 106 0 = some (0, tX 3) := by kernel_rfl
theorem fe106_1 : fldE (C gl) 106 1 = some (1, tX 3) := by kernel_rfl
def plc106 : Nat → Option (Nat × Nat)
  | 0 => some (0, 1)
  | 1 => some (1, 1)
  | _ => none
theorem bl106 : bldE (C gl) 106 = some ((ofV (tX 106).zero).cells, plc106) := by
  refine bldE_of (by kernel_rfl) ?_
  intro i
  match i with
  | 0 => show (bldE (C gl) 106).map (fun p => p.2 (0)) = some (plc106 (0)); kernel_rfl
  | 1 => show (bldE (C gl) 106).map (fun p => p.2 (1)) = some (plc106 (1)); kernel_rfl
  | n + 2 => show (bldE (C gl) 106).map (fun p => p.2 (n + 2)) = some (plc106 (n + 2)); kernel_rfl
theorem pl106_0 : plc106 0 = some (0, 1) := rfl
theorem pl106_1 : plc106 1 = some (1, 1) := rfl
theorem ze106 : ofV (tX 106).zero = .agg [.int Go.IntKind.i64 0, .int Go.IntKind.i64 0] := by kernel_rfl
theorem zs106 : (tX 106).zero.cells.size = 2 := by kernel_rfl
theorem sz173 : (tX 173).size = 4 := by kernel_rfl
theorem by173 : (tX 173).bytes = 32 := by kernel_rfl
theorem rd173 (cs : List AV) (k : Nat) : rdC (tX 173) cs k = .agg ((cs.drop k).take 4) := rdC_agg (by kernel_rfl) sz173 cs k
theorem ro173 (cs : List AV) (k : Nat) : rdOK (tX 173) cs k = (k + 4 ≤ cs.length) := rdOK_agg (by kernel_rfl) sz173 cs k
theorem fe173_0 : fldE (C gl) 173 0 = some (0, tX 106) := by kernel_rfl
theorem fe173_1 : fldE (C gl) 173 1 = some (2, tX 106) := by kernel_rfl
def plc173 : Nat → Option (Nat × Nat)
  | 0 => some (0, 2)
  | 1 => some (2, 2)
  | _ => none
theorem bl173 : bldE (C gl) 173 = some ((ofV (tX 173).zero).cells, plc173) := by
  refine bldE_of (by kernel_rfl) ?_
  intro i
  match i with
  | 0 => show (bldE (C gl) 173).map (fun p => p.2 (0)) = some (plc173 (0)); kernel_rfl
  | 1 => show (bldE (C gl) 173).map (fun p => p.2 (1)) = some (plc173 (1)); kernel_rfl
  | n + 2 => show (bldE (C gl) 173).map (fun p => p.2 (n + 2)) = some (plc173 (n + 2)); kernel_rfl
theorem pl173_0 : plc173 0 = some (0, 2) := rfl
theorem pl173_1 : plc173 1 = some (2, 2) := rfl
theorem ze173 : ofV (tX 173).zero = .agg [.int Go.IntKind.i64 0, .int Go.IntKind.i64 0, .int Go.IntKind.i64 0, .int Go.IntKind.i64 0] := by kernel_rfl
theorem zs173 : (tX 173).zero.cells.size = 4 := by kernel_rfl
theorem sz209 : (tX 209).size = 1 := by kernel_rfl
theorem by209 : (tX 209).bytes = 24 := by kernel_rfl
theorem rd209 (cs : List AV) (k : Nat) : rdC (tX 209) cs k = cs.getD k .undef := rdC_one (by kernel_rfl) cs k
theorem ro209 (cs : List AV) (k : Nat) : rdOK (tX 209) cs k = (k + 1 ≤ cs.length) := rdOK_one (by kernel_rfl) sz209 cs k
theorem sl209 : slE (C gl) 209 = some (tX 102) := by kernel_rfl
theorem ar209 : arE (C gl) 209 = none := by kernel_rfl
theorem ze209 : ofV (tX 209).zero = .list true [] := by kernel_rfl
theorem zs209 : (tX 209).zero.cells.size = 1 := by kernel_rfl
end
attribute [go_sem] c_ty40 c_ty42 c_ty106 c_ty173 c_ty209 sz40 by40 rd40 ro40 sl40 ar40 ze40 zs40 sz42 by42 rd42 ro42 fe42_0 fe42_1 fe42_2 fe42_3 bl42 pl42_0 pl42_1 pl42_2 pl42_3 ze42 zs42 sz106 by106 rd106 ro106 fe106_0 fe106_1 bl106 pl106_0 pl106_1 ze106 zs106 sz173 by173 rd173 ro173 fe173_0 fe173_1 bl173 pl173_0 pl173_1 ze173 zs173 sz209 by209 rd209 ro209 sl209 ar209 ze209 zs209
end Go.Sx
set_option linter.unusedSimpArgs false
set_option linter.unusedVariables false
namespace Go.Sx
open Go Go.Lg Go.Proofs
def plS : AV := .agg [.bool false, .bool false, .int .i64 0, .int .i64 0]
theorem pl_inv {a : AV} {v : Value} (h1 : AV.shp a = plS) (h2 : a.pv = some v) : ∃ b c n m, a = .agg [.bool b, .bool c, .int .i64 n, .int .i64 m] ∧ v = .agg #[.bool b, .bool c, .int .i64 n, .int .i64 m] := by
  unfold plS at h1
  cases a <;> simp [AV.shp, AV.shp1] at h1
  rename_i cs
  have hl : cs.length = 4 := by have := congrArg List.length h1; simpa using this
  match cs, hl, h1 with
  | [x0, x1, x2, x3], _, h1 =>
    simp only [List.map_cons, List.map_nil, List.cons.injEq, and_true] at h1
    obtain ⟨g0, g1, g2, g3⟩ := h1
    cases x0 <;> simp [AV.shp1] at g0
    cases x1 <;> simp [AV.shp1] at g1
    cases x2 <;> simp [AV.shp1] at g2
    cases x3 <;> simp [AV.shp1] at g3
    subst g2; subst g3
    simp [AV.pv, AV.pvL, AV.pv1] at h2
    exact ⟨_, _, _, _, rfl, h2.symm⟩
theorem ck_bool (P : Program) (h : P.underlying 4 = some .bool) (e : Bool) (n : Nat) (b : Bool) (w : World) : (Instr.checkKey e (n + 1) 4 (.bool b)).run P w = .ok () w := by
  simp [Instr.checkKey, run_underlying h]
theorem ck_int (P : Program) (h : P.underlying 3 = some (.int .i64)) (e : Bool) (n : Nat) (k : IntKind) (b : Int) (w : World) : (Instr.checkKey e (n + 1) 3 (.int k b)).run P w = .ok () w := by
  simp [Instr.checkKey, run_underlying h]
def plFs : Array Field := #[{ name := "begin", type := 4, offset := 0, embedded := false, tag := "", pkgPath := "lodesman/gr1", byteOffset := 0 },
  { name := "free", type := 4, offset := 1, embedded := false, tag := "", pkgPath := "lodesman/gr1", byteOffset := 1 },
  { name := "letter", type := 3, offset := 2, embedded := false, tag := "", pkgPath := "lodesman/gr1", byteOffset := 8 },
  { name := "goal", type := 3, offset := 3, embedded := false, tag := "", pkgPath := "lodesman/gr1", byteOffset := 16 }]
section
variable {gl : GL}
theorem keyOK_pl : KeyOK (C gl) 120 plS := by
  have hu : (C gl).P.underlying 120 = some (.struct plFs) := Tryd.underlying120
  have u3 : (C gl).P.underlying 3 = some (.int .i64) := Tryd.underlying3
  have u4 : (C gl).P.underlying 4 = some .bool := Tryd.underlying4
  have p3 : (C gl).P.plainKey 3 = true := by kernel_rfl
  have p4 : (C gl).P.plainKey 4 = true := by kernel_rfl
  refine ⟨⟨_, hu, .inr fun a b v u h1 h2 h3 h4 => ?_⟩, fun e a v w h1 h2 => ?_, fun a b v u w h1 h2 h3 h4 => ?_⟩
  · rfl
  · obtain ⟨b, c, n, m, rfl, rfl⟩ := pl_inv h1 h2
    have e : (10000 : Nat) = 9998 + 1 + 1 := rfl
    rw [e]
    generalize 9998 = d
    have q0 : ∀ w, (part 4 #[.bool b, .bool c, .int .i64 n, .int .i64 m] 0).run (C gl).P w = .ok (.bool b) w := fun w => run_part_plain w p4 rfl
    have q1 : ∀ w, (part 4 #[.bool b, .bool c, .int .i64 n, .int .i64 m] 1).run (C gl).P w = .ok (.bool c) w := fun w => run_part_plain w p4 rfl
    have q2 : ∀ w, (part 3 #[.bool b, .bool c, .int .i64 n, .int .i64 m] 2).run (C gl).P w = .ok (.int .i64 n) w := fun w => run_part_plain w p3 rfl
    have q3 : ∀ w, (part 3 #[.bool b, .bool c, .int .i64 n, .int .i64 m] 3).run (C gl).P w = .ok (.int .i64 m) w := fun w => run_part_plain w p3 rfl
    rw [Instr.checkKey]
    simp only [Sem.run_bind, run_underlying hu, Result.andThen_ok]
    rw [← Array.forIn_toList]
    simp [plFs, List.forIn_cons, Sem.run_bind, q0, q1, q2, q3, ck_bool _ u4, ck_int _ u3, Result.andThen]
  · obtain ⟨b, c, n, m, rfl, rfl⟩ := pl_inv h1 h3
    obtain ⟨b', c', n', m', rfl, rfl⟩ := pl_inv h2 h4
    have hf : (C gl).P.fieldsOf 120 = plFs := by unfold Program.fieldsOf; rw [hu]
    have q0 : ∀ (b c : Bool) (n m : Int) w, (part 4 #[.bool b, .bool c, .int .i64 n, .int .i64 m] 0).run (C gl).P w = .ok (.bool b) w := fun _ _ _ _ w => run_part_plain w p4 rfl
    have q1 : ∀ (b c : Bool) (n m : Int) w, (part 4 #[.bool b, .bool c, .int .i64 n, .int .i64 m] 1).run (C gl).P w = .ok (.bool c) w := fun _ _ _ _ w => run_part_plain w p4 rfl
    have q2 : ∀ (b c : Bool) (n m : Int) w, (part 3 #[.bool b, .bool c, .int .i64 n, .int .i64 m] 2).run (C gl).P w = .ok (.int .i64 n) w := fun _ _ _ _ w => run_part_plain w p3 rfl
    have q3 : ∀ (b c : Bool) (n m : Int) w, (part 3 #[.bool b, .bool c, .int .i64 n, .int .i64 m] 3).run (C gl).P w = .ok (.int .i64 m) w := fun _ _ _ _ w => run_part_plain w p3 rfl
    unfold Op.equal
    rw [show Op.maxDepth = 9998 + 1 + 1 from rfl]
    generalize 9998 = d
    rw [run_equalIn_struct w (d + 1) 120 _ _ (by rw [hf]; exact hu) (by kernel_rfl), hf]
    simp only [plFs, Op.eqFields]
    simp [Sem.run_bind, q0, q1, q2, q3, Result.andThen, run_equalIn_bool' w d 4 _ _ u4, run_equalIn_int w d 3 _ _ _ _ u3, AV.peq, peqL, peq1]
    by_cases e0 : b = b' <;> by_cases e1 : c = c' <;> by_cases e2 : n = n' <;> by_cases e3 : m = m' <;> simp [e0, e1, e2, e3]
end
end Go.Sx
