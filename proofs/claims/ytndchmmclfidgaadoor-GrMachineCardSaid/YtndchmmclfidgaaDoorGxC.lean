import Derived.Test.YtndchmmclfidgaaDoorLgAw
import Derived.Test.YtndchmmclfidgaaDoorGxB
set_option maxRecDepth 100000
set_option linter.unusedSimpArgs false
set_option linter.unusedVariables false
set_option linter.unnecessarySimpa false
namespace Go.Sx
open Go Go.Lg Go.Proofs
theorem b134 {gl : GL} : Body (C gl).P 134 Tryd.f134 (codeOf Tryd.f134) := ⟨Tryd.func134, by kernel_rfl, by kernel_rfl⟩
theorem b75 {gl : GL} : Body (C gl).P 75 Tryd.f75 (codeOf Tryd.f75) := ⟨Tryd.func75, by kernel_rfl, by kernel_rfl⟩
theorem b74 {gl : GL} : Body (C gl).P 74 Tryd.f74 (codeOf Tryd.f74) := ⟨Tryd.func74, by kernel_rfl, by kernel_rfl⟩
def zY (t : Tb) (z j : BitVec 64) : BitVec 64 := itB (yStep t (j &&& aheadB t z)) 66 0#64
def zStep (t : Tb) (z : BitVec 64) : BitVec 64 := t.js.foldl (fun out j => out &&& zY t z j) z
def wonB (t : Tb) : BitVec 64 := itB (zStep t) 66 (allB t.n)
structure Stab (t : Tb) : Prop where
  x : ∀ j z y f, fixR (xStep t ((j &&& aheadB t z) ||| aheadB t y) f) (fun _ (u : Unit) => u) 67 (allB t.n) () = some (xF t ((j &&& aheadB t z) ||| aheadB t y) f, ())
  y : ∀ j z, ∃ lv, fixR (yStep t (j &&& aheadB t z)) (lStep t (j &&& aheadB t z)) 67 0#64 [] = some (zY t z j, lv)
  z : fixR (zStep t) (fun _ (u : Unit) => u) 67 (allB t.n) () = some (wonB t, ())
theorem foldl_take {A B : Type} (f : B → A → B) (b : B) (l : List A) (i : Nat) (h : i < l.length) : (l.take (i + 1)).foldl f b = f ((l.take i).foldl f b) l[i] := by
  rw [← List.take_append_getElem h, List.foldl_append]; rfl
section
variable {gl : GL}
theorem won1_ok (tid tb : Nat) (t : Tb) (z : BitVec 64) (σ : Sto) (hok : TbOK t) (hs : Stab t) (ht : σ.get tid = some (.box (tbCells t))) (hl : tid < σ.next) (h1 : σ.get tb = some (.box [.ptr tid 0])) :
    CallX (C gl) 134 [.int .u64 (uB z), .ptr tb 0] σ (.int .u64 (uB (zStep t z))) σ := by
  refine callX_of b134 (by simp [Tryd.ntmps134]) ?_
  have hjl := hok.js
  refine W.of ?_
  rw [Tryd.ntmps134]
  simp only [toK, codeOf, Tryd.f134, go_sem, seval, reduceCtorEq]
  have H := And.intro @ht (And.intro @h1 @tbCells.eq_1)
  refine goB ?_
  first | exact trivial | clear H | skip
  refine WK.rangeX (t.js.length) [0, 1, 13] [4] (fun i => [.int .u64 (uB ((t.js.take i).foldl (fun out j => out &&& zY t z j) z))]) (fun i => σ) (by omega) (by decide) (by simp only [go_sem, seval, reduceCtorEq, ht, h1, List.length_map, List.foldl_nil]) (by simp only [go_sem, seval, reduceCtorEq, ht, h1, List.length_map, List.foldl_nil]) (by simp only [go_sem, seval, reduceCtorEq, ht, h1, List.length_map, List.foldl_nil, List.take_zero]) (by first | rfl | (simp only [go_sem, seval, reduceCtorEq, ht, h1, List.length_map, List.foldl_nil]; done) | (refine Sto.ext' (by simp only [go_sem, seval, reduceCtorEq, ht, h1, List.length_map, List.foldl_nil]) (fun i => ?_); simp only [go_sem, seval, reduceCtorEq, ht, h1, List.length_map, List.foldl_nil]; repeat' split; all_goals (first | rfl | omega | simp_all))) ?_ ?_
  · intro i hi
    simp only [go_sem, seval, reduceCtorEq, ht, h1, List.length_map]
    obtain ⟨lv, hlv⟩ := hs.y t.js[i] z
    have H := And.intro @ht (And.intro @h1 (And.intro (map_getD encW t.js i hi) @encW_eq))
    refine goB ?_
    first | exact trivial | clear H | skip
    refine callK_x0 (within_ok tid t z t.js[i] (zY t z t.js[i]) lv σ 67 hok ht hl (by omega) (hs.x _ _) hlv) rfl ?_ ?_ ?_ <;> simp only [go_sem, seval, reduceCtorEq, ht, h1, List.length_map]
    have H := And.intro @ht (And.intro @h1 (And.intro @foldl_take @hi))
    refine goB ?_
    first | exact trivial | clear H | skip
  · simp only [go_sem, seval, reduceCtorEq, ht, h1, List.length_map, List.take_length]
    have H := And.intro @ht @h1
    refine goB ?_
    first | exact trivial | clear H | skip
    rfl
theorem won_ok (tid : Nat) (t : Tb) (σ : Sto) (hok : TbOK t) (hs : Stab t) (ht : σ.get tid = some (.box (tbCells t))) (hl : tid < σ.next) :
    CallX (C gl) 75 [.ptr tid 0] σ (.int .u64 (uB (wonB t))) σ := by
  refine callX_of b75 (by simp [Tryd.ntmps75]) ?_
  have nz_tid : (tid = σ.next) = False := by simp; omega
  have nx_tid : ∀ j, (tid = σ.next + j) = False := fun j => by simp; omega
  refine W.of ?_
  rw [Tryd.ntmps75]
  simp only [toK, codeOf, Tryd.f75, go_sem, seval, reduceCtorEq]
  have H := And.intro @nz_tid (And.intro @nx_tid @ht)
  refine goB ?_
  first | exact trivial | clear H | skip
  refine callK_x0 (tall_ok tid t _ hok.n (by simp only [go_sem, seval, reduceCtorEq, nz_tid, nx_tid, ht]; first | done | omega)) rfl ?_ ?_ ?_ <;> simp only [go_sem, seval, reduceCtorEq, nz_tid, nx_tid, ht]
  refine callK_x0 (fixed_ok (T := Unit) (fS := zStep t) (tS := fun _ u => u) (fun _ _ => True) (fun _ => _) (g1 := 134) (caps1 := [.ptr σ.next 0]) (g2 := 135) (caps2 := []) (fun _ x _ _ => ⟨won1_ok tid σ.next t x _ hok hs (by simp only [go_sem, seval, reduceCtorEq, nz_tid, nx_tid, ht]; first | done | omega) (by simp only [go_sem, seval, reduceCtorEq, nz_tid, nx_tid, ht]; first | done | omega) (by simp only [go_sem, seval, reduceCtorEq, nz_tid, nx_tid, ht]; first | done | omega), trivial⟩) (fun x _ => quiet2_ok (uB x) _) (fun x _ => .refl _) 67 (allB t.n) () (wonB t) () trivial hs.z (.refl _)) rfl ?_ ?_ ?_ <;> simp only [go_sem, seval, reduceCtorEq, nz_tid, nx_tid, ht]
  have H := And.intro @nz_tid (And.intro @nx_tid @ht)
  refine goB ?_
  first | exact trivial | clear H | skip
  have H := And.intro @nz_tid (And.intro @nx_tid @ht)
  exact cutA
def stepB (ss : Fm) (a l i : Nat) : Nat → BitVec 64
  | 0 => 0#64
  | o + 1 => if holdsF l ((i + o * 2 ^ a : Nat) : Int) ss = true then stepB ss a l i o ||| (1#64 <<< (i + o * 2 ^ a)) else stepB ss a l i o
def rowT (c : Ct) (a b l : Nat) : List (Bool × BitVec 64) := (List.range (2 ^ a)).map fun i => (holdsF l ((i : Nat) : Int) c.se, stepB c.ss a l i (2 ^ b))
def tab (c : Ct) (a b : Nat) : Tb := ⟨c, 2 ^ (a + b), setsL c.je (2 ^ (a + b)), setsL c.js (2 ^ (a + b)), (List.range (2 ^ (a + b))).map (rowT c a b)⟩
structure CtOK (c : Ct) (a b : Nat) : Prop where
  inn : c.inn = a
  out : c.out = b
  a3 : a ≤ 3
  b3 : b ≤ 3
  ie : WfH c.ie
  is : WfH c.is
  se : WfH c.se
  ss : WfH c.ss
  je : ∀ f ∈ c.je, WfH f
  js : ∀ f ∈ c.js, WfH f
  jel : c.je.length < 1000
  jsl : c.js.length < 1000
theorem shl_one (n : Nat) (h : n ≤ 62) : shlI .i64 1 (n : Int) = ((2 ^ n : Nat) : Int) := by
  unfold shlI
  show IntKind.i64.wrap (1 * 2 ^ (min ((n : Int).toNat) 64)) = _
  rw [Int.toNat_natCast, Int.one_mul, Nat.min_eq_left (by omega)]
  have h1 : (2 : Int) ^ n = ((2 ^ n : Nat) : Int) := by push_cast; rfl
  have h2 : 2 ^ n ≤ 2 ^ 62 := Nat.pow_le_pow_right (by omega) h
  rw [h1]
  generalize 2 ^ n = m at *
  exact IntWalk.i64_in _ (by omega)
theorem shl_mul (o n : Nat) (h : o * 2 ^ n ≤ 1000000) (hn : n ≤ 62) : shlI .i64 (o : Int) (n : Int) = ((o * 2 ^ n : Nat) : Int) := by
  unfold shlI
  show IntKind.i64.wrap ((o : Int) * 2 ^ (min ((n : Int).toNat) 64)) = _
  rw [Int.toNat_natCast, Nat.min_eq_left (by omega)]
  have h1 : (o : Int) * 2 ^ n = ((o * 2 ^ n : Nat) : Int) := by push_cast; rfl
  rw [h1]
  exact IntWalk.i64_in _ (by omega)
theorem wrap_add_nat (m n : Nat) (h : m + n ≤ 1000000000) : IntKind.i64.wrap ((m : Int) + (n : Int)) = ((m + n : Nat) : Int) := by
  rw [← Int.natCast_add]; exact IntWalk.i64_in _ (by omega)
theorem pow2_le {a : Nat} (n : Nat) (h : a ≤ n) : 2 ^ a ≤ 2 ^ n := Nat.pow_le_pow_right (by omega) h
def tbS (σ : Sto) (c : Ct) (a b l : Nat) : Sto := ((σ.add (.box (ctCells c))).add (.box [.int .i64 c.inn, .int .i64 c.out, .int .i64 c.ie.op, .int .i64 c.ie.var, .list false (encFs c.ie.args), .int .i64 c.is.op, .int .i64 c.is.var, .list false (encFs c.is.args),
  .int .i64 c.se.op, .int .i64 c.se.var, .list false (encFs c.se.args), .int .i64 c.ss.op, .int .i64 c.ss.var, .list false (encFs c.ss.args), .list false (encFs c.je), .list false (encFs c.js),
  .int .i64 ((2 ^ (a + b) : Nat) : Int), .list false ((setsL c.je (2 ^ (a + b))).map encW), .list false ((setsL c.js (2 ^ (a + b))).map encW), .own (σ.next + 2) ((List.range l).map fun l => encRow (rowT c a b l))])).add (.tok 1 l)
theorem map_range0 {B : Type} (f : Nat → B) : (List.range 0).map f = [] := rfl
theorem belE_encRow {m : Nat} (f : Nat → List (Bool × BitVec 64)) (l : List Nat) : BelE m (l.map fun l => encRow (f l)) = True := eq_true fun x hx c hc => by
  obtain ⟨a, _, rfl⟩ := List.mem_map.1 hx
  simp only [encRow, AV.cells, List.mem_singleton] at hc
  subst hc
  exact .list _ _ (fun y hy d hd => by
    obtain ⟨s, _, rfl⟩ := List.mem_map.1 hy
    simp only [encStep, AV.cells, List.mem_cons, List.not_mem_nil, or_false] at hd
    rcases hd with rfl | rfl
    · exact .bool _
    · exact .int _ _)
theorem belE_encRow' {m : Nat} (l : List (List (Bool × BitVec 64))) : BelE m (l.map encRow) = True := eq_true fun x hx c hc => by
  obtain ⟨a, _, rfl⟩ := List.mem_map.1 hx
  simp only [encRow, AV.cells, List.mem_singleton] at hc
  subst hc
  exact .list _ _ (fun y hy d hd => by
    obtain ⟨s, _, rfl⟩ := List.mem_map.1 hy
    simp only [encStep, AV.cells, List.mem_cons, List.not_mem_nil, or_false] at hd
    rcases hd with rfl | rfl
    · exact .bool _
    · exact .int _ _)
theorem belL_tb {m : Nat} (t : Tb) : BelL m (tbCells t) = True := eq_true (by
  have h := belE_encRow' (m := m) t.good
  simp only [go_sem, tbCells, h])
theorem belL_ct {m : Nat} (c : Ct) : BelL m (ctCells c) = True := eq_true (by simp only [go_sem, ctCells])
attribute [go_sem] belL_tb belL_ct
theorem okes_encRow (f : Nat → List (Bool × BitVec 64)) (l : List Nat) : OKEs 1 (l.map fun l => encRow (f l)) = True := eq_true (okes_map fun _ => ⟨rfl, rfl⟩)
theorem belE_encStepM {m : Nat} (f : Nat → Bool × BitVec 64) (l : List Nat) : BelE m (l.map fun l => encStep (f l)) = True := eq_true fun x hx c hc => by
  obtain ⟨a, _, rfl⟩ := List.mem_map.1 hx
  simp only [encStep, AV.cells, List.mem_cons, List.not_mem_nil, or_false] at hc
  rcases hc with rfl | rfl
  · exact .bool _
  · exact .int _ _
theorem okes_encStepM (f : Nat → Bool × BitVec 64) (l : List Nat) : OKEs 2 (l.map fun l => encStep (f l)) = True := eq_true (okes_map fun _ => ⟨rfl, rfl⟩)
attribute [go_sem] belE_encRow okes_encRow belE_encStepM okes_encStepM map_range0
section
variable {gl : GL}
theorem tableOf_ok (c : Ct) (a b : Nat) (σ : Sto) (hc : CtOK c a b) :
    CallX (C gl) 74 [encC c] σ (.ptr (σ.next + 1) 0) ((σ.add (.box (ctCells c))).add (.box (tbCells (tab c a b)))) := by
  refine callX_of b74 (by simp [Tryd.ntmps74]) ?_
  obtain ⟨hin, hout, a3, b3, hie, his, hse, hss, hje, hjs, hjel, hjsl⟩ := hc
  have p1 := pow2_le 3 a3
  have p2 := pow2_le 3 b3
  have p3 := pow2_le (a := a + b) 6 (by omega)
  have q1 := shl_one a (by omega)
  have q2 := shl_one b (by omega)
  have q3 := shl_one (a + b) (by omega)
  have q4 := wrap_add_nat a b (by omega)
  refine W.of ?_
  rw [Tryd.ntmps74]
  simp only [toK, codeOf, Tryd.f74, go_sem, seval, reduceCtorEq]
  have H := And.intro @hin (And.intro @hout (And.intro @q1 (And.intro @q2 (And.intro @q3 (And.intro @q4 @ctCells.eq_1)))))
  refine goB ?_
  first | exact trivial | clear H | skip
  refine WK.draw [⟨false, 0, 0⟩, ⟨false, 0, 0⟩, ⟨false, 0, 0⟩, ⟨false, 0, 0⟩, ⟨false, 0, 0⟩, ⟨false, 0, 0⟩, ⟨false, 0, 0⟩, ⟨false, 0, 0⟩, ⟨true, 0, 0⟩, ⟨false, 0, 0⟩] mixed (by kernel_rfl) ?_
  simp only [go_sem, seval, reduceCtorEq, hin, hout, q1, q2, q3, q4]
  have H := And.intro @hin (And.intro @hout (And.intro @q1 (And.intro @q2 (And.intro @q3 @q4))))
  refine goB ?_
  first | exact trivial | clear H | skip
  refine WK.draw [⟨false, 0, 0⟩, ⟨false, 0, 0⟩, ⟨false, 0, 0⟩, ⟨false, 0, 0⟩, ⟨false, 0, 0⟩, ⟨false, 0, 0⟩, ⟨false, 0, 0⟩, ⟨false, 0, 0⟩, ⟨true, 0, 0⟩, ⟨false, 0, 0⟩, ⟨false, 1, 0⟩, ⟨false, 0, 0⟩, ⟨false, 0, 0⟩, ⟨false, 0, 0⟩, ⟨false, 1, 0⟩, ⟨true, 0, 0⟩, ⟨false, 0, 0⟩, ⟨false, 0, 0⟩, ⟨true, 0, 0⟩, ⟨false, 0, 0⟩, ⟨false, 0, 0⟩, ⟨true, 0, 0⟩] mixed (by kernel_rfl) ?_
  simp only [go_sem, seval, reduceCtorEq, hin, hout, q1, q2, q3, q4]
  refine callD_pure (sets_ok (gl := gl) c.je (2 ^ (a + b)) hje (by omega) (by omega)) rfl ?_ ?_ ?_ <;> simp only [go_sem, seval, reduceCtorEq, hin, hout, q1, q2, q3, q4]
  refine callD_pure (sets_ok (gl := gl) c.js (2 ^ (a + b)) hjs (by omega) (by omega)) rfl ?_ ?_ ?_ <;> simp only [go_sem, seval, reduceCtorEq, hin, hout, q1, q2, q3, q4]
  refine WK.ownBox0 (σ.next + 1) 19 1 (by simp only [go_sem, seval, reduceCtorEq, hin, hout, q1, q2, q3, q4]; rfl) (by rfl) ?_
  simp only [go_sem, seval, reduceCtorEq, hin, hout, q1, q2, q3, q4]
  have H := And.intro @hin (And.intro @hout (And.intro @q1 (And.intro @q2 (And.intro @q3 @q4))))
  refine goB ?_
  first | exact trivial | clear H | skip
  refine WK.rangeX ((2 ^ (a + b))) [1, 3] [] (fun i => []) (fun i => tbS σ c a b i) (by omega) (by decide) (by simp only [go_sem, seval, reduceCtorEq, hin, hout, q1, q2, q3, q4, tbS, ctCells]) (by simp only [go_sem, seval, reduceCtorEq, hin, hout, q1, q2, q3, q4, tbS, ctCells]) (by simp only [go_sem, seval, reduceCtorEq, hin, hout, q1, q2, q3, q4, tbS, ctCells, List.take_zero]) (by first | rfl | (simp only [go_sem, seval, reduceCtorEq, hin, hout, q1, q2, q3, q4, tbS, ctCells]; done) | (refine Sto.ext' (by simp only [go_sem, seval, reduceCtorEq, hin, hout, q1, q2, q3, q4, tbS, ctCells]) (fun i => ?_); simp only [go_sem, seval, reduceCtorEq, hin, hout, q1, q2, q3, q4, tbS, ctCells]; repeat' split; all_goals (first | rfl | omega | simp_all))) ?_ ?_
  · intro l hl
    simp only [go_sem, seval, reduceCtorEq, hin, hout, q1, q2, q3, q4, tbS, ctCells]
    have H := And.intro @hin (And.intro @hout (And.intro @q1 (And.intro @q2 (And.intro @q3 @q4))))
    refine goB ?_
    first | exact trivial | clear H | skip
    refine WK.own0 5 2 (by decide) (by simp only [go_sem, seval, reduceCtorEq, hin, hout, q1, q2, q3, q4]; first | done | omega) ?_
    simp only [go_sem, seval, reduceCtorEq, hin, hout, q1, q2, q3, q4]
    refine WK.rangeX ((2 ^ a)) [1, 3, 4, 42, 43] [5] (fun i => [.own (σ.next + 3) ((List.range i).map fun i => encStep (holdsF l ((i : Nat) : Int) c.se, stepB c.ss a l i (2 ^ b)))]) (fun i => (tbS σ c a b l).add (.tok 2 i)) (by omega) (by decide) (by simp only [go_sem, seval, reduceCtorEq, hin, hout, q1, q2, q3, q4, tbS, ctCells]) (by simp only [go_sem, seval, reduceCtorEq, hin, hout, q1, q2, q3, q4, tbS, ctCells]) (by simp only [go_sem, seval, reduceCtorEq, hin, hout, q1, q2, q3, q4, tbS, ctCells, List.take_zero]) (by first | rfl | (simp only [go_sem, seval, reduceCtorEq, hin, hout, q1, q2, q3, q4, tbS, ctCells]; done) | (refine Sto.ext' (by simp only [go_sem, seval, reduceCtorEq, hin, hout, q1, q2, q3, q4, tbS, ctCells]) (fun i => ?_); simp only [go_sem, seval, reduceCtorEq, hin, hout, q1, q2, q3, q4, tbS, ctCells]; repeat' split; all_goals (first | rfl | omega | simp_all))) ?_ ?_
    · intro i hi
      simp only [go_sem, seval, reduceCtorEq, hin, hout, q1, q2, q3, q4, tbS, ctCells]
      have H := And.intro @hin (And.intro @hout (And.intro @q1 (And.intro @q2 (And.intro @q3 (And.intro @q4 @ctCells.eq_1)))))
      refine goB ?_
      first | exact trivial | clear H | skip
      refine callK_pureL (holds_ok (gl := gl) l i c.se hse) rfl ?_ ?_ ?_ <;> simp only [go_sem, seval, reduceCtorEq, hin, hout, q1, q2, q3, q4, encF_eq]
      have H := And.intro @hin (And.intro @hout (And.intro @q1 (And.intro @q2 (And.intro @q3 @q4))))
      refine goB ?_
      first | exact trivial | clear H | skip
      refine WK.rangeX ((2 ^ b)) [1, 3, 4, 5, 6, 7, 42, 43, 48, 49] [] (fun o => []) (fun o => ((tbS σ c a b l).add (.tok 2 i)).add (.box [.bool (holdsF l i c.se), .int .u64 (uB (stepB c.ss a l i o))])) (by omega) (by decide) (by simp only [go_sem, seval, reduceCtorEq, hin, hout, q1, q2, q3, q4, tbS, ctCells, stepB, uB_zero]) (by simp only [go_sem, seval, reduceCtorEq, hin, hout, q1, q2, q3, q4, tbS, ctCells, stepB, uB_zero]) (by simp only [go_sem, seval, reduceCtorEq, hin, hout, q1, q2, q3, q4, tbS, ctCells, stepB, uB_zero, List.take_zero]) (by first | rfl | (simp only [go_sem, seval, reduceCtorEq, hin, hout, q1, q2, q3, q4, tbS, ctCells, stepB, uB_zero]; done) | (refine Sto.ext' (by simp only [go_sem, seval, reduceCtorEq, hin, hout, q1, q2, q3, q4, tbS, ctCells, stepB, uB_zero]) (fun i => ?_); simp only [go_sem, seval, reduceCtorEq, hin, hout, q1, q2, q3, q4, tbS, ctCells, stepB, uB_zero]; repeat' split; all_goals (first | rfl | omega | simp_all))) ?_ ?_
      · intro o ho
        simp only [go_sem, seval, reduceCtorEq, hin, hout, q1, q2, q3, q4, tbS, ctCells]
        have hm : o * 2 ^ a ≤ 8 * 8 := Nat.mul_le_mul (by omega) (by omega)
        have r1 := shl_mul o a (by omega) (by omega)
        have r2 := wrap_add_nat i (o * 2 ^ a) (by omega)
        have H := And.intro @hin (And.intro @hout (And.intro @q1 (And.intro @q2 (And.intro @q3 (And.intro @q4 (And.intro @r1 @r2))))))
        refine goB ?_
        first | exact trivial | clear H | skip
        refine callK_pureL (holds_ok (gl := gl) l (i + o * 2 ^ a : Nat) c.ss hss) rfl ?_ ?_ ?_ <;> simp only [go_sem, seval, reduceCtorEq, hin, hout, q1, q2, q3, q4, r1, r2, encF_eq]
        refine WK.cond _ (by simp only [go_sem, seval, reduceCtorEq, hin, hout, q1, q2, q3, q4, r1, r2]; rfl) (fun h => ?_) (fun h => ?_)
        · refine WK.draw [⟨false, 0, 0⟩, ⟨false, 0, 0⟩, ⟨false, 0, 0⟩, ⟨false, 0, 0⟩, ⟨false, 0, 0⟩, ⟨false, 0, 0⟩, ⟨true, 0, 0⟩] mixed (by kernel_rfl) ?_
          simp only [go_sem, seval, reduceCtorEq, hin, hout, q1, q2, q3, q4, r1, r2]
          have H := And.intro @hin (And.intro @hout (And.intro @q1 (And.intro @q2 (And.intro @q3 (And.intro @q4 (And.intro @r1 @r2))))))
          refine goB ?_
          first | exact trivial | clear H | skip
          have hst : stepB c.ss a l i (o + 1) = stepB c.ss a l i o ||| (1#64 <<< (i + o * 2 ^ a)) := by simp only [stepB, h, if_true]
          rw [hst]
          have H := And.intro @hin (And.intro @hout (And.intro @q1 (And.intro @q2 (And.intro @q3 (And.intro @q4 (And.intro @r1 @r2))))))
          exact cutA
        · have H := And.intro @hin (And.intro @hout (And.intro @q1 (And.intro @q2 (And.intro @q3 (And.intro @q4 (And.intro @r1 (And.intro @r2 (And.intro @stepB.eq_1 (And.intro @stepB.eq_2 @h)))))))))
          refine goB ?_
          first | exact trivial | clear H | skip
      · simp only [go_sem, seval, reduceCtorEq, hin, hout, q1, q2, q3, q4, tbS, ctCells]
        have H := And.intro @hin (And.intro @hout (And.intro @q1 (And.intro @q2 (And.intro @q3 @q4))))
        refine goB ?_
        first | exact trivial | clear H | skip
        have H := And.intro @hin (And.intro @hout (And.intro @q1 (And.intro @q2 (And.intro @q3 (And.intro @q4 (And.intro @encStep_eq @List.map_append.{0,0}))))))
        refine appB ?_
        first | exact trivial | clear H | skip
        refine ⟨by omega, ?_⟩
        have H := And.intro @hin (And.intro @hout (And.intro @q1 (And.intro @q2 (And.intro @q3 @q4))))
        exact cutA
    · simp only [go_sem, seval, reduceCtorEq, hin, hout, q1, q2, q3, q4, tbS, ctCells]
      refine WK.lessT 5 (v := .list false ((List.range (2 ^ a)).map fun i => encStep (holdsF l ((i : Nat) : Int) c.se, stepB c.ss a l i (2 ^ b)))) (by simp only [go_sem, seval, reduceCtorEq, hin, hout, q1, q2, q3, q4]; first | done | omega) ?_
      have H := And.intro @hin (And.intro @hout (And.intro @q1 (And.intro @q2 (And.intro @q3 @q4))))
      refine goB ?_
      first | exact trivial | clear H | skip
      have hr : encRow (rowT c a b l) = .list false ((List.range (2 ^ a)).map fun i => encStep (holdsF l ((i : Nat) : Int) c.se, stepB c.ss a l i (2 ^ b))) := by
        unfold encRow rowT; rw [List.map_map]; rfl
      have H := And.intro @hin (And.intro @hout (And.intro @q1 (And.intro @q2 (And.intro @q3 (And.intro @q4 (And.intro @List.map_append.{0,0} @hr))))))
      refine appB ?_
      first | exact trivial | clear H | skip
      have H := And.intro @hin (And.intro @hout (And.intro @q1 (And.intro @q2 (And.intro @q3 @q4))))
      exact cutA
  · simp only [go_sem, seval, reduceCtorEq, hin, hout, q1, q2, q3, q4, tbS, ctCells]
    refine WK.lessBox (σ.next + 1) (tbCells (tab c a b)) (by simp only [go_sem, seval, reduceCtorEq, hin, hout, q1, q2, q3, q4]; rfl) ?_ ?_
    · simp only [go_sem, seval, reduceCtorEq, hin, hout, q1, q2, q3, q4, tbCells, tab, List.map_map, Function.comp_def]
    have H := And.intro @hin (And.intro @hout (And.intro @q1 (And.intro @q2 (And.intro @q3 (And.intro @q4 @ctCells.eq_1)))))
    refine goB ?_
    first | exact trivial | clear H | skip
    have H := And.intro @hin (And.intro @hout (And.intro @q1 (And.intro @q2 (And.intro @q3 @q4))))
    exact cutA
end
end
end Go.Sx
