import Derived.Test.YtndchmmclfidgaaDoorLgAw
import Derived.Test.YtndchmmclfidgaaDoorGxA
set_option maxRecDepth 100000
set_option linter.unusedSimpArgs false
set_option linter.unusedVariables false
set_option linter.unnecessarySimpa false
namespace Go.Sx
open Go Go.Lg Go.Proofs
theorem b132 {gl : GL} : Body (C gl).P 132 Tryd.f132 (codeOf Tryd.f132) := ⟨Tryd.func132, by kernel_rfl, by kernel_rfl⟩
theorem b150 {gl : GL} : Body (C gl).P 150 Tryd.f150 (codeOf Tryd.f150) := ⟨Tryd.func150, by kernel_rfl, by kernel_rfl⟩
theorem b148 {gl : GL} : Body (C gl).P 148 Tryd.f148 (codeOf Tryd.f148) := ⟨Tryd.func148, by kernel_rfl, by kernel_rfl⟩
theorem b135 {gl : GL} : Body (C gl).P 135 Tryd.f135 (codeOf Tryd.f135) := ⟨Tryd.func135, by kernel_rfl, by kernel_rfl⟩
theorem b149 {gl : GL} : Body (C gl).P 149 Tryd.f149 (codeOf Tryd.f149) := ⟨Tryd.func149, by kernel_rfl, by kernel_rfl⟩
theorem b92 {gl : GL} : Body (C gl).P 92 Tryd.f92 (codeOf Tryd.f92) := ⟨Tryd.func92, by kernel_rfl, by kernel_rfl⟩
def fixR {T : Type} (fS : BitVec 64 → BitVec 64) (tS : BitVec 64 → T → T) : Nat → BitVec 64 → T → Option (BitVec 64 × T)
  | 0, _, _ => none
  | n + 1, x, t => if fS x = x then some (x, tS x t) else fixR fS tS n (fS x) (tS x t)
section
variable {gl : GL}
theorem fixed_ok {T : Type} {fS : BitVec 64 → BitVec 64} {tS : BitVec 64 → T → T} (P : Nat → T → Prop) (S : T → Sto) {g1 g2 : FuncId} {caps1 caps2 : List AV} {r2 : AV}
    (hstep : ∀ m x t, P (m + 1) t → CallX (C gl) g1 ([.int .u64 (uB x)] ++ caps1) (S t) (.int .u64 (uB (fS x))) (S (tS x t)) ∧ P m (tS x t))
    (htell : ∀ x t, CallX (C gl) g2 ([.int .u64 (uB x)] ++ caps2) (S t) r2 (S t)) (hcut : ∀ x t, Cut (S t) (S (tS x t)) (S (tS x t))) (n : Nat) (x0 : BitVec 64) (t0 : T) (x : BitVec 64) (t : T) (hP : P n t0) (hr : fixR fS tS n x0 t0 = some (x, t)) (hct : Cut (S t0) (S t) (S t)) :
    CallX (C gl) 132 [.int .u64 (uB x0), .fn g1 caps1, .fn g2 caps2] (S t0) (.int .u64 (uB x)) (S t) := by
  refine callX_of b132 (by simp [Tryd.ntmps132]) ?_
  refine W.of ?_
  rw [Tryd.ntmps132]
  simp only [toK, codeOf, Tryd.f132, go_sem, seval, reduceCtorEq]
  have H := trivial
  refine goB ?_
  first | exact trivial | clear H | skip
  refine WK.block ?_
  refine WK.loopX [1, 2] [0] (fun s : Nat × BitVec 64 × T => [.int .u64 (uB s.2.1)]) (fun s => S s.2.2) (fun s => fixR fS tS s.1 s.2.1 s.2.2 = some (x, t) ∧ P s.1 s.2.2) (fun s => s.1) (n, x0, t0) (by decide) ⟨hr, hP⟩ (by simp only [go_sem, seval, reduceCtorEq]) (by rfl) ?_
  rintro ⟨m, y, u⟩ ⟨hI, hPm⟩
  simp only [go_sem, seval, reduceCtorEq]
  simp only at hI hPm
  cases m with
  | zero => simp [fixR] at hI
  | succ m =>
  simp only [fixR] at hI
  refine WK.block ?_
  have H := trivial
  refine goB ?_
  first | exact trivial | clear H | skip
  obtain ⟨hst, hPm'⟩ := hstep m y u hPm
  refine callK_x (hst) rfl ?_ ?_ ?_ <;> simp only [go_sem, seval, reduceCtorEq]
  have H := trivial
  refine goB ?_
  first | exact trivial | clear H | skip
  refine WK.cond _ (by simp only [go_sem, seval, reduceCtorEq]; rfl) (fun h => ?_) (fun h => ?_)
  · have hy : fS y = y := by simpa using h
    rw [if_pos hy] at hI
    simp only [Option.some.injEq, Prod.mk.injEq] at hI
    obtain ⟨rfl, rfl⟩ := hI
    have H := trivial
    refine goB ?_
    first | exact trivial | clear H | skip
    trace_state
  · have hy : ¬ fS y = y := by simpa using h
    rw [if_neg hy] at hI
    have H := trivial
    refine goB ?_
    first | exact trivial | clear H | skip
    refine callK_x (htell (fS y) (tS y u)) rfl ?_ ?_ ?_ <;> simp only [go_sem, seval, reduceCtorEq]
    have H := trivial
    refine goB ?_
    first | exact trivial | clear H | skip
    exact ⟨(m, fS y, tS y u), ⟨hI, hPm'⟩, Nat.lt_succ_self m, rfl, hcut y u⟩
theorem quiet1_ok (x : Int) (σ : Sto) : CallX (C gl) 148 [.int .u64 x] σ (.tup []) σ := by
  refine callX_of b148 (by simp [Tryd.ntmps148]) ?_
  refine W.of ?_
  rw [Tryd.ntmps148]
  simp only [toK, codeOf, Tryd.f148, go_sem, seval, reduceCtorEq]
  have H := trivial
  refine goB ?_
  first | exact trivial | clear H | skip
theorem quiet2_ok (x : Int) (σ : Sto) : CallX (C gl) 135 [.int .u64 x] σ (.tup []) σ := by
  refine callX_of b135 (by simp [Tryd.ntmps135]) ?_
  refine W.of ?_
  rw [Tryd.ntmps135]
  simp only [toK, codeOf, Tryd.f135, go_sem, seval, reduceCtorEq]
  have H := trivial
  refine goB ?_
  first | exact trivial | clear H | skip
def xStep (t : Tb) (sure f x : BitVec 64) : BitVec 64 := sure ||| (~~~ f &&& aheadB t x &&& allB t.n)
structure TbOK (t : Tb) : Prop where
  n : t.n ≤ 64
  good : t.good.length < 1000000
  row : ∀ row ∈ t.good, row.length < 1000000
  je : t.je.length < 1000000
  js : t.js.length < 1000000
theorem within21_ok (tid sb fb tb : Nat) (t : Tb) (sure f x : BitVec 64) (σ : Sto) (hok : TbOK t) (ht : σ.get tid = some (.box (tbCells t))) (htl : tid < σ.next)
    (h1 : σ.get sb = some (.box [.int .u64 (uB sure)])) (h2 : σ.get fb = some (.box [.int .u64 (uB f)])) (h3 : σ.get tb = some (.box [.ptr tid 0])) :
    CallX (C gl) 150 [.int .u64 (uB x), .ptr sb 0, .ptr fb 0, .ptr tb 0] σ (.int .u64 (uB (xStep t sure f x))) σ := by
  refine callX_of b150 (by simp [Tryd.ntmps150]) ?_
  refine W.of ?_
  rw [Tryd.ntmps150]
  simp only [toK, codeOf, Tryd.f150, go_sem, seval, reduceCtorEq]
  have H := trivial
  refine goB ?_
  first | exact trivial | clear H | skip
  refine WK.draw [⟨false, 0, 2⟩, ⟨false, 0, 2⟩, ⟨false, 0, 0⟩, ⟨false, 0, 0⟩, ⟨false, 0, 0⟩, ⟨true, 0, 0⟩, ⟨false, 0, 0⟩, ⟨false, 1, 0⟩, ⟨true, 0, 0⟩, ⟨false, 0, 0⟩, ⟨false, 0, 0⟩, ⟨false, 0, 0⟩] mixed (by kernel_rfl) ?_
  simp only [go_sem, seval, reduceCtorEq, h1, h2, h3]
  refine callD_x0 (ahead_ok tid t x σ hok.good hok.row ht htl) rfl ?_ ?_ ?_ <;> simp only [go_sem, seval, reduceCtorEq, h1, h2, h3]
  refine callD_x0 (tall_ok tid t σ hok.n ht) rfl ?_ ?_ ?_ <;> simp only [go_sem, seval, reduceCtorEq, h1, h2, h3]
  have H := @xStep.eq_1
  refine goB ?_
  first | exact trivial | clear H | skip
def encLv (l : BitVec 64 × List (BitVec 64)) : AV := .agg [.int .u64 (uB l.1), .list false (l.2.map encW)]
theorem encLv_eq (l : BitVec 64 × List (BitVec 64)) : encLv l = .agg [.int .u64 (uB l.1), .list false (l.2.map encW)] := rfl
theorem belE_encLv {m : Nat} (l : List (BitVec 64 × List (BitVec 64))) : BelE m (l.map encLv) = True := eq_true fun x hx c hc => by
  obtain ⟨a, _, rfl⟩ := List.mem_map.1 hx
  simp only [encLv, AV.cells, List.mem_cons, List.not_mem_nil, or_false] at hc
  rcases hc with rfl | rfl
  · exact .int _ _
  · exact .list _ _ (by have := belE_encW (m := m) a.2; exact of_eq_true this)
theorem okes_encLv (l : List (BitVec 64 × List (BitVec 64))) : OKEs 2 (l.map encLv) = True := eq_true (okes_map fun _ => ⟨rfl, rfl⟩)
attribute [go_sem] belE_encLv okes_encLv
def orB (l : List (BitVec 64)) : BitVec 64 := l.foldl (· ||| ·) 0#64
theorem orB_take (l : List (BitVec 64)) (f : BitVec 64 → BitVec 64) (i : Nat) (h : i < l.length) : orB ((l.take (i + 1)).map f) = orB ((l.take i).map f) ||| f l[i] := by
  rw [takeM h]; simp [orB]
theorem within2_ok (tid gb tb qb lb k : Nat) (t : Tb) (goal y : BitVec 64) (lv : List (BitVec 64 × List (BitVec 64))) (σ : Sto) (N : Nat) (X : BitVec 64 → BitVec 64) (hok : TbOK t)
    (ht : σ.get tid = some (.box (tbCells t))) (h1 : σ.get gb = some (.box [.int .u64 (uB goal)])) (h2 : σ.get tb = some (.box [.ptr tid 0])) (h3 : σ.get qb = some (.box [.fn 148 []]))
    (h4 : σ.get lb = some (.box [.own k (lv.map encLv)])) (h5 : σ.get k = some (.tok 2 lv.length)) (hl : tid < σ.next ∧ gb < σ.next ∧ tb < σ.next ∧ qb < σ.next ∧ lb < σ.next ∧ k < σ.next) (hkl : (lb = k) = False) (hlv : lv.length < 1000000)
    (hX : ∀ f ∈ t.je, fixR (xStep t (goal ||| aheadB t y) f) (fun _ (u : Unit) => u) N (allB t.n) () = some (X f, ())) :
    CallX (C gl) 149 [.int .u64 (uB y), .ptr gb 0, .ptr tb 0, .ptr qb 0, .ptr lb 0] σ (.int .u64 (uB (orB (t.je.map X)))) ((σ.set k (.tok 2 (lv.length + 1))).set lb (.box [.own k ((lv ++ [(y, t.je.map X)]).map encLv)])) := by
  refine callX_of b149 (by simp [Tryd.ntmps149]) ?_
  obtain ⟨l1, l2, l3, l4, l5, l6⟩ := hl
  have hjl := hok.je
  have nz_tid : (tid = σ.next) = False := by simp; omega
  have nx_tid : ∀ j, (tid = σ.next + j) = False := fun j => by simp; omega
  have nz_gb : (gb = σ.next) = False := by simp; omega
  have nx_gb : ∀ j, (gb = σ.next + j) = False := fun j => by simp; omega
  have nz_tb : (tb = σ.next) = False := by simp; omega
  have nx_tb : ∀ j, (tb = σ.next + j) = False := fun j => by simp; omega
  have nz_qb : (qb = σ.next) = False := by simp; omega
  have nx_qb : ∀ j, (qb = σ.next + j) = False := fun j => by simp; omega
  have nz_lb : (lb = σ.next) = False := by simp; omega
  have nx_lb : ∀ j, (lb = σ.next + j) = False := fun j => by simp; omega
  have nz_k : (k = σ.next) = False := by simp; omega
  have nx_k : ∀ j, (k = σ.next + j) = False := fun j => by simp; omega
  refine W.of ?_
  rw [Tryd.ntmps149]
  simp only [toK, codeOf, Tryd.f149, go_sem, seval, reduceCtorEq]
  have H := And.intro @nz_tid (And.intro @nx_tid (And.intro @nz_gb (And.intro @nx_gb (And.intro @nz_tb (And.intro @nx_tb (And.intro @nz_qb (And.intro @nx_qb (And.intro @nz_lb (And.intro @nx_lb (And.intro @nz_k (And.intro @nx_k (And.intro @h1 (And.intro @h2 (And.intro @h3 (And.intro @h4 (And.intro @h5 (And.intro @ht @hkl)))))))))))))))))
  refine goB ?_
  first | exact trivial | clear H | skip
  refine WK.draw [⟨false, 0, 1⟩, ⟨false, 0, 1⟩, ⟨false, 0, 0⟩, ⟨false, 0, 1⟩, ⟨false, 0, 0⟩, ⟨true, 0, 0⟩, ⟨true, 0, 0⟩] mixed (by kernel_rfl) ?_
  simp only [go_sem, seval, reduceCtorEq, nz_tid, nx_tid, nz_gb, nx_gb, nz_tb, nx_tb, nz_qb, nx_qb, nz_lb, nx_lb, nz_k, nx_k, h1, h2, h3, h4, h5, ht, hkl, List.length_map]
  refine callD_q0 (ahead_ok tid t y σ hok.good hok.row ht l1) rfl ?_ ?_ ?_ <;> simp only [go_sem, seval, reduceCtorEq, nz_tid, nx_tid, nz_gb, nx_gb, nz_tb, nx_tb, nz_qb, nx_qb, nz_lb, nx_lb, nz_k, nx_k, h1, h2, h3, h4, h5, ht, hkl, List.length_map]
  refine ⟨?_, ?_⟩
  · refine qcall_of0 (ahead_ok tid t y _ hok.good hok.row (by simp only [go_sem, seval, reduceCtorEq, nz_tid, ht]) (by simp only [go_sem, seval, reduceCtorEq]; omega)) rfl (by simp only [go_sem, seval, reduceCtorEq, nz_tid, nx_tid, nz_gb, nx_gb, nz_tb, nx_tb, nz_qb, nx_qb, nz_lb, nx_lb, nz_k, nx_k, h1, h2, h3, h4, h5, ht, hkl, List.length_map]) (by simp only [go_sem, seval, reduceCtorEq, nz_tid, nx_tid, nz_gb, nx_gb, nz_tb, nx_tb, nz_qb, nx_qb, nz_lb, nx_lb, nz_k, nx_k, h1, h2, h3, h4, h5, ht, hkl, List.length_map])
  have H := And.intro @nz_tid (And.intro @nx_tid (And.intro @nz_gb (And.intro @nx_gb (And.intro @nz_tb (And.intro @nx_tb (And.intro @nz_qb (And.intro @nx_qb (And.intro @nz_lb (And.intro @nx_lb (And.intro @nz_k (And.intro @nx_k (And.intro @h1 (And.intro @h2 (And.intro @h3 (And.intro @h4 (And.intro @h5 (And.intro @ht (And.intro @hkl @tbCells.eq_1))))))))))))))))))
  refine goB ?_
  first | exact trivial | clear H | skip
  refine WK.ownBox0 (σ.next + 1) 1 1 (by simp only [go_sem, seval, reduceCtorEq]; rfl) (by rfl) ?_
  simp only [go_sem, seval, reduceCtorEq, nz_tid, nx_tid, nz_gb, nx_gb, nz_tb, nx_tb, nz_qb, nx_qb, nz_lb, nx_lb, nz_k, nx_k, h1, h2, h3, h4, h5, ht, hkl, List.length_map]
  refine WK.rangeX (t.je.length) [0, 2, 3, 4, 7, 8, 23] [9] (fun i => [.int .u64 (uB (orB ((t.je.take i).map X)))]) (fun i => ((σ.add (.box [.int .u64 (uB (goal ||| aheadB t y))])).add (.box [.int .u64 (uB y), .own (σ.next + 2) (((t.je.take i).map X).map encW)])).add (.tok 1 i)) (by omega) (by decide) (by simp only [go_sem, seval, reduceCtorEq, nz_tid, nx_tid, nz_gb, nx_gb, nz_tb, nx_tb, nz_qb, nx_qb, nz_lb, nx_lb, nz_k, nx_k, h1, h2, h3, h4, h5, ht, hkl, List.length_map, orB, List.foldl_nil, uB_zero]) (by simp only [go_sem, seval, reduceCtorEq, nz_tid, nx_tid, nz_gb, nx_gb, nz_tb, nx_tb, nz_qb, nx_qb, nz_lb, nx_lb, nz_k, nx_k, h1, h2, h3, h4, h5, ht, hkl, List.length_map, orB, List.foldl_nil, uB_zero]) (by simp only [go_sem, seval, reduceCtorEq, nz_tid, nx_tid, nz_gb, nx_gb, nz_tb, nx_tb, nz_qb, nx_qb, nz_lb, nx_lb, nz_k, nx_k, h1, h2, h3, h4, h5, ht, hkl, List.length_map, orB, List.foldl_nil, uB_zero, List.take_zero]) (by first | rfl | (simp only [go_sem, seval, reduceCtorEq, nz_tid, nx_tid, nz_gb, nx_gb, nz_tb, nx_tb, nz_qb, nx_qb, nz_lb, nx_lb, nz_k, nx_k, h1, h2, h3, h4, h5, ht, hkl, List.length_map, orB, List.foldl_nil, uB_zero]; done) | (refine Sto.ext' (by simp only [go_sem, seval, reduceCtorEq, nz_tid, nx_tid, nz_gb, nx_gb, nz_tb, nx_tb, nz_qb, nx_qb, nz_lb, nx_lb, nz_k, nx_k, h1, h2, h3, h4, h5, ht, hkl, List.length_map, orB, List.foldl_nil, uB_zero]) (fun i => ?_); simp only [go_sem, seval, reduceCtorEq, nz_tid, nx_tid, nz_gb, nx_gb, nz_tb, nx_tb, nz_qb, nx_qb, nz_lb, nx_lb, nz_k, nx_k, h1, h2, h3, h4, h5, ht, hkl, List.length_map, orB, List.foldl_nil, uB_zero]; repeat' split; all_goals (first | rfl | omega | simp_all))) ?_ ?_
  · intro i hi
    simp only [go_sem, seval, reduceCtorEq, nz_tid, nx_tid, nz_gb, nx_gb, nz_tb, nx_tb, nz_qb, nx_qb, nz_lb, nx_lb, nz_k, nx_k, h1, h2, h3, h4, h5, ht, hkl, List.length_map]
    have H := And.intro @nz_tid (And.intro @nx_tid (And.intro @nz_gb (And.intro @nx_gb (And.intro @nz_tb (And.intro @nx_tb (And.intro @nz_qb (And.intro @nx_qb (And.intro @nz_lb (And.intro @nx_lb (And.intro @nz_k (And.intro @nx_k (And.intro @h1 (And.intro @h2 (And.intro @h3 (And.intro @h4 (And.intro @h5 (And.intro @ht (And.intro @hkl (And.intro (map_getD encW t.je i hi) @encW_eq)))))))))))))))))))
    refine goB ?_
    first | exact trivial | clear H | skip
    refine WK.draw [⟨false, 0, 0⟩, ⟨true, 0, 0⟩, ⟨false, 0, 0⟩, ⟨false, 1, 0⟩, ⟨true, 0, 0⟩, ⟨false, 0, 0⟩] mixed (by kernel_rfl) ?_
    simp only [go_sem, seval, reduceCtorEq, nz_tid, nx_tid, nz_gb, nx_gb, nz_tb, nx_tb, nz_qb, nx_qb, nz_lb, nx_lb, nz_k, nx_k, h1, h2, h3, h4, h5, ht, hkl, List.length_map]
    refine callD_x0 (tall_ok tid t _ hok.n (by simp only [go_sem, seval, reduceCtorEq, nz_tid, nx_tid, ht])) rfl ?_ ?_ ?_ <;> simp only [go_sem, seval, reduceCtorEq, nz_tid, nx_tid, nz_gb, nx_gb, nz_tb, nx_tb, nz_qb, nx_qb, nz_lb, nx_lb, nz_k, nx_k, h1, h2, h3, h4, h5, ht, hkl, List.length_map]
    refine callD_x0 (fixed_ok (T := Unit) (fS := xStep t (goal ||| aheadB t y) t.je[i]) (tS := fun _ u => u) (fun _ _ => True) (fun _ => _) (g1 := 150) (caps1 := [.ptr σ.next 0, .ptr (σ.next + 3) 0, .ptr tb 0]) (g2 := 148) (caps2 := []) (fun _ x _ _ => ⟨within21_ok tid σ.next (σ.next + 3) tb t (goal ||| aheadB t y) t.je[i] x _ hok (by simp only [go_sem, seval, reduceCtorEq, nz_tid, nx_tid, ht]) (by simp only [go_sem, seval, reduceCtorEq]; omega) (by simp only [go_sem, seval, reduceCtorEq]) (by simp only [go_sem, seval, reduceCtorEq]) (by simp only [go_sem, seval, reduceCtorEq, nz_tb, nx_tb, h2]), trivial⟩) (fun x _ => quiet1_ok (uB x) _) (fun x _ => .refl _) N (allB t.n) () (X t.je[i]) () trivial (hX _ (List.getElem_mem hi)) (.refl _)) rfl ?_ ?_ ?_ <;> simp only [go_sem, seval, reduceCtorEq, nz_tid, nx_tid, nz_gb, nx_gb, nz_tb, nx_tb, nz_qb, nx_qb, nz_lb, nx_lb, nz_k, nx_k, h1, h2, h3, h4, h5, ht, hkl, List.length_map]
    have H := And.intro @nz_tid (And.intro @nx_tid (And.intro @nz_gb (And.intro @nx_gb (And.intro @nz_tb (And.intro @nx_tb (And.intro @nz_qb (And.intro @nx_qb (And.intro @nz_lb (And.intro @nx_lb (And.intro @nz_k (And.intro @nx_k (And.intro @h1 (And.intro @h2 (And.intro @h3 (And.intro @h4 (And.intro @h5 (And.intro @ht @hkl)))))))))))))))))
    refine goB ?_
    first | exact trivial | clear H | skip
    have H := And.intro @nz_tid (And.intro @nx_tid (And.intro @nz_gb (And.intro @nx_gb (And.intro @nz_tb (And.intro @nx_tb (And.intro @nz_qb (And.intro @nx_qb (And.intro @nz_lb (And.intro @nx_lb (And.intro @nz_k (And.intro @nx_k (And.intro @h1 (And.intro @h2 (And.intro @h3 (And.intro @h4 (And.intro @h5 (And.intro @ht (And.intro @hkl @encW_eq))))))))))))))))))
    refine appB ?_
    first | exact trivial | clear H | skip
    have H := And.intro @nz_tid (And.intro @nx_tid (And.intro @nz_gb (And.intro @nx_gb (And.intro @nz_tb (And.intro @nx_tb (And.intro @nz_qb (And.intro @nx_qb (And.intro @nz_lb (And.intro @nx_lb (And.intro @nz_k (And.intro @nx_k (And.intro @h1 (And.intro @h2 (And.intro @h3 (And.intro @h4 (And.intro @h5 (And.intro @ht (And.intro @hkl @encW_eq))))))))))))))))))
    refine goB ?_
    first | exact trivial | clear H | skip
    refine ⟨?_, ?_⟩
    · rw [orB_take t.je X i hi]
    have ht1 : ((t.je.take (i + 1)).map X).map encW = ((t.je.take i).map X).map encW ++ [.int .u64 (uB (X t.je[i]))] := by rw [takeM hi, List.map_append]; rfl
    rw [ht1]
    have H := And.intro @nz_tid (And.intro @nx_tid (And.intro @nz_gb (And.intro @nx_gb (And.intro @nz_tb (And.intro @nx_tb (And.intro @nz_qb (And.intro @nx_qb (And.intro @nz_lb (And.intro @nx_lb (And.intro @nz_k (And.intro @nx_k (And.intro @h1 (And.intro @h2 (And.intro @h3 (And.intro @h4 (And.intro @h5 (And.intro @ht (And.intro @hkl @encW_eq))))))))))))))))))
    exact cutA
  · simp only [go_sem, seval, reduceCtorEq, nz_tid, nx_tid, nz_gb, nx_gb, nz_tb, nx_tb, nz_qb, nx_qb, nz_lb, nx_lb, nz_k, nx_k, h1, h2, h3, h4, h5, ht, hkl, List.length_map, List.take_length]
    refine WK.lessBox (σ.next + 1) [.int .u64 (uB y), .list false ((t.je.map X).map encW)] (by simp only [go_sem, seval, reduceCtorEq]; rfl) ?_ ?_
    · exact ⟨.refl _, le_own _ _, trivial⟩
    have H := And.intro @nz_tid (And.intro @nx_tid (And.intro @nz_gb (And.intro @nx_gb (And.intro @nz_tb (And.intro @nx_tb (And.intro @nz_qb (And.intro @nx_qb (And.intro @nz_lb (And.intro @nx_lb (And.intro @nz_k (And.intro @nx_k (And.intro @h1 (And.intro @h2 (And.intro @h3 (And.intro @h4 (And.intro @h5 (And.intro @ht @hkl)))))))))))))))))
    refine goB ?_
    first | exact trivial | clear H | skip
    have H := And.intro @nz_tid (And.intro @nx_tid (And.intro @nz_gb (And.intro @nx_gb (And.intro @nz_tb (And.intro @nx_tb (And.intro @nz_qb (And.intro @nx_qb (And.intro @nz_lb (And.intro @nx_lb (And.intro @nz_k (And.intro @nx_k (And.intro @h1 (And.intro @h2 (And.intro @h3 (And.intro @h4 (And.intro @h5 (And.intro @ht (And.intro @hkl @encLv_eq))))))))))))))))))
    refine appB ?_
    first | exact trivial | clear H | skip
    have H := And.intro @nz_tid (And.intro @nx_tid (And.intro @nz_gb (And.intro @nx_gb (And.intro @nz_tb (And.intro @nx_tb (And.intro @nz_qb (And.intro @nx_qb (And.intro @nz_lb (And.intro @nx_lb (And.intro @nz_k (And.intro @nx_k (And.intro @h1 (And.intro @h2 (And.intro @h3 (And.intro @h4 (And.intro @h5 (And.intro @ht @hkl)))))))))))))))))
    refine goB ?_
    first | exact trivial | clear H | skip
    have ht2 : (lv ++ [(y, t.je.map X)]).map encLv = lv.map encLv ++ [.agg [.int .u64 (uB y), .list false ((t.je.map X).map encW)]] := by rw [List.map_append]; rfl
    rw [ht2]
    have H := And.intro @nz_tid (And.intro @nx_tid (And.intro @nz_gb (And.intro @nx_gb (And.intro @nz_tb (And.intro @nx_tb (And.intro @nz_qb (And.intro @nx_qb (And.intro @nz_lb (And.intro @nx_lb (And.intro @nz_k (And.intro @nx_k (And.intro @h1 (And.intro @h2 (And.intro @h3 (And.intro @h4 (And.intro @h5 (And.intro @ht @hkl)))))))))))))))))
    exact cutA
def itB (f : BitVec 64 → BitVec 64) : Nat → BitVec 64 → BitVec 64
  | 0, x => x
  | n + 1, x => itB f n (f x)
def xF (t : Tb) (sure f : BitVec 64) : BitVec 64 := itB (xStep t sure f) 66 (allB t.n)
def yStep (t : Tb) (goal y : BitVec 64) : BitVec 64 := orB (t.je.map (xF t (goal ||| aheadB t y)))
def lStep (t : Tb) (goal y : BitVec 64) (lv : List (BitVec 64 × List (BitVec 64))) : List (BitVec 64 × List (BitVec 64)) := lv ++ [(y, t.je.map (xF t (goal ||| aheadB t y)))]
def wiS (σ : Sto) (tid : Nat) (goal : BitVec 64) (lv : List (BitVec 64 × List (BitVec 64))) : Sto := ((((σ.add (.box [.ptr tid 0])).add (.box [.own (σ.next + 2) (lv.map encLv)])).add (.tok 2 lv.length)).add (.box [.int .u64 (uB goal)])).add (.box [.fn 148 []])
theorem wiS_cut (σ : Sto) (tid : Nat) (goal : BitVec 64) (lv lv' : List (BitVec 64 × List (BitVec 64))) : Cut (wiS σ tid goal lv) (wiS σ tid goal lv') (wiS σ tid goal lv') := by
  unfold wiS
  have H := trivial
  exact cutA
theorem within_ok (tid : Nat) (t : Tb) (z j y : BitVec 64) (lv : List (BitVec 64 × List (BitVec 64))) (σ : Sto) (N : Nat) (hok : TbOK t) (ht : σ.get tid = some (.box (tbCells t))) (hl : tid < σ.next) (hN : N < 1000)
    (hX : ∀ y f, fixR (xStep t ((j &&& aheadB t z) ||| aheadB t y) f) (fun _ (u : Unit) => u) 67 (allB t.n) () = some (xF t ((j &&& aheadB t z) ||| aheadB t y) f, ()))
    (hY : fixR (yStep t (j &&& aheadB t z)) (lStep t (j &&& aheadB t z)) N 0#64 [] = some (y, lv)) :
    CallX (C gl) 92 [.ptr tid 0, .int .u64 (uB z), .int .u64 (uB j)] σ (.tup [.int .u64 (uB y), .list false (lv.map encLv)]) σ := by
  refine callX_of b92 (by simp [Tryd.ntmps92]) ?_
  have nz_tid : (tid = σ.next) = False := by simp; omega
  have nx_tid : ∀ j, (tid = σ.next + j) = False := fun j => by simp; omega
  refine W.of ?_
  rw [Tryd.ntmps92]
  simp only [toK, codeOf, Tryd.f92, go_sem, seval, reduceCtorEq]
  refine WK.seq (WK.reg ?_)
  simp only [go_sem, seval, reduceCtorEq, nz_tid, nx_tid, ht]
  refine WK.seq (WK.reg ?_)
  simp only [go_sem, seval, reduceCtorEq, nz_tid, nx_tid, ht]
  refine WK.ownBox0 (σ.next + 1) 0 2 (by simp only [go_sem, seval, reduceCtorEq, nz_tid, nx_tid, ht]; rfl) (by rfl) ?_
  simp only [go_sem, seval, reduceCtorEq, nz_tid, nx_tid, ht]
  have H := And.intro @nz_tid (And.intro @nx_tid @ht)
  refine goB ?_
  first | exact trivial | clear H | skip
  refine callK_x0 (ahead_ok tid t z _ hok.good hok.row (by simp only [go_sem, seval, reduceCtorEq, nz_tid, nx_tid, ht]; first | done | omega) (by simp only [go_sem, seval, reduceCtorEq, nz_tid, nx_tid, ht]; first | done | omega)) rfl ?_ ?_ ?_ <;> simp only [go_sem, seval, reduceCtorEq, nz_tid, nx_tid, ht]
  have H := And.intro @nz_tid (And.intro @nx_tid @ht)
  refine goB ?_
  first | exact trivial | clear H | skip
  refine callK_x0 (fixed_ok (T := List (BitVec 64 × List (BitVec 64))) (fS := yStep t (j &&& aheadB t z)) (tS := lStep t (j &&& aheadB t z)) (fun m lv => lv.length + m < 1001) (wiS σ tid (j &&& aheadB t z)) (g1 := 149) (caps1 := [.ptr (σ.next + 3) 0, .ptr σ.next 0, .ptr (σ.next + 4) 0, .ptr (σ.next + 1) 0]) (g2 := 148) (caps2 := []) (fun m x lv hlv => ⟨?_, ?_⟩) (fun x _ => quiet1_ok (uB x) _) (fun _ _ => wiS_cut _ _ _ _ _) N 0#64 [] y lv (by simp; omega) hY (wiS_cut _ _ _ _ _)) rfl (by simp only [go_sem, seval, reduceCtorEq, nz_tid, nx_tid, ht, ← uB_zero]) (by simp only [go_sem, seval, reduceCtorEq, nz_tid, nx_tid, ht, ← uB_zero]) ?_
  · have h := within2_ok (gl := gl) tid (σ.next + 3) σ.next (σ.next + 4) (σ.next + 1) (σ.next + 2) t (j &&& aheadB t z) x lv (wiS σ tid (j &&& aheadB t z) lv) 67 (xF t ((j &&& aheadB t z) ||| aheadB t x)) hok (by simp only [go_sem, seval, reduceCtorEq, nz_tid, nx_tid, ht, wiS]; first | done | omega) (by simp only [go_sem, seval, reduceCtorEq, nz_tid, nx_tid, ht, wiS]; first | done | omega) (by simp only [go_sem, seval, reduceCtorEq, nz_tid, nx_tid, ht, wiS]; first | done | omega) (by simp only [go_sem, seval, reduceCtorEq, nz_tid, nx_tid, ht, wiS]; first | done | omega) (by simp only [go_sem, seval, reduceCtorEq, nz_tid, nx_tid, ht, wiS]; first | done | omega) (by simp only [go_sem, seval, reduceCtorEq, nz_tid, nx_tid, ht, wiS]; first | done | omega) (by simp only [go_sem, seval, reduceCtorEq, nz_tid, nx_tid, ht, wiS]; first | done | omega) (by simp) (by omega) (fun f _ => hX x f)
    have e : ((wiS σ tid (j &&& aheadB t z) lv).set (σ.next + 2) (.tok 2 (lv.length + 1))).set (σ.next + 1) (.box [.own (σ.next + 2) ((lv ++ [(x, t.je.map (xF t ((j &&& aheadB t z) ||| aheadB t x)))]).map encLv)]) = wiS σ tid (j &&& aheadB t z) (lStep t (j &&& aheadB t z) x lv) := by
      simp only [go_sem, seval, reduceCtorEq, wiS, lStep, List.length_append]
    rw [e] at h
    exact h
  · simp only [lStep, List.length_append, List.length_cons, List.length_nil]; omega
  simp only [go_sem, seval, reduceCtorEq, nz_tid, nx_tid, ht, wiS]
  refine WK.lessBox (σ.next + 1) [.list false (lv.map encLv)] (by simp only [go_sem, seval, reduceCtorEq, nz_tid, nx_tid, ht]; rfl) ?_ ?_
  · exact ⟨le_own _ _, trivial⟩
  simp only [go_sem, seval, reduceCtorEq, nz_tid, nx_tid, ht]
  have H := And.intro @nz_tid (And.intro @nx_tid @ht)
  refine goB ?_
  first | exact trivial | clear H | skip
  refine WK.draw0 mixed (by kernel_rfl) ?_
  simp only [go_sem, seval, reduceCtorEq, nz_tid, nx_tid, ht]
  have H := And.intro @nz_tid (And.intro @nx_tid @ht)
  refine goB ?_
  first | exact trivial | clear H | skip
  have H := And.intro @nz_tid (And.intro @nx_tid @ht)
  exact cutA
end
end Go.Sx
