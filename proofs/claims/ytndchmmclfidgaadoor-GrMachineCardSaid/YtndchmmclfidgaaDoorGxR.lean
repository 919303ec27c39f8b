import Derived.Test.YtndchmmclfidgaaDoorLgAw
import Derived.Test.YtndchmmclfidgaaDoorLtlB
import Derived.Test.YtndchmmclfidgaaDoorLgX
set_option maxRecDepth 100000
set_option linter.unusedSimpArgs false
set_option linter.unusedVariables false
set_option linter.unnecessarySimpa false
namespace Go.Sx
open Go Go.Lg Go.Proofs
theorem b175 {gl : GL} : Body (C gl).P 175 Tryd.f175 (codeOf Tryd.f175) := ⟨Tryd.func175, by kernel_rfl, by kernel_rfl⟩
theorem b141 {gl : GL} : Body (C gl).P 141 Tryd.f141 (codeOf Tryd.f141) := ⟨Tryd.func141, by kernel_rfl, by kernel_rfl⟩
theorem b64 {gl : GL} : Body (C gl).P 64 Tryd.f64 (codeOf Tryd.f64) := ⟨Tryd.func64, by kernel_rfl, by kernel_rfl⟩
theorem b119 {gl : GL} : Body (C gl).P 119 Tryd.f119 (codeOf Tryd.f119) := ⟨Tryd.func119, by kernel_rfl, by kernel_rfl⟩
theorem b58 {gl : GL} : Body (C gl).P 58 Tryd.f58 (codeOf Tryd.f58) := ⟨Tryd.func58, by kernel_rfl, by kernel_rfl⟩
theorem b26 {gl : GL} : Body (C gl).P 26 Tryd.f26 (codeOf Tryd.f26) := ⟨Tryd.func26, by kernel_rfl, by kernel_rfl⟩
def arF (o : Int) : Int := if 0 ≤ o ∧ o ≤ 13 then arityL.getD o.toNat 0 else -1
mutual
def nodesR (m : Int) : Fm → Int
  | .mk _ _ l => nodesRL m l 1
def nodesRL (m : Int) : List Fm → Int → Int
  | [], n => n
  | f :: l, n => nodesRL m l (if n ≤ m then n + nodesR (m - n) f else n)
end
section
variable {gl : GL}
theorem arity_ok (o : Int) : PCall (C gl) 175 [.int .i64 o] (.int .i64 (arF o)) := by
  refine pcallX (callX_of b175 (by simp [Tryd.ntmps175]) ?_) (by simp only [AllCl, cl_int, and_true]) (.int _ _)
  by_cases h : 0 ≤ o ∧ o ≤ 13
  · obtain ⟨n, rfl⟩ := Int.eq_ofNat_of_zero_le h.1
    have hn : n ≤ 13 := by omega
    have hcases : n = 0 ∨ n = 1 ∨ n = 2 ∨ n = 3 ∨ n = 4 ∨ n = 5 ∨ n = 6 ∨ n = 7 ∨ n = 8 ∨ n = 9 ∨ n = 10 ∨ n = 11 ∨ n = 12 ∨ n = 13 := by omega
    refine W.of ?_
    rw [Tryd.ntmps175]
    simp only [toK, codeOf, Tryd.f175, go_sem, seval, reduceCtorEq]
    rcases hcases with rfl | rfl | rfl | rfl | rfl | rfl | rfl | rfl | rfl | rfl | rfl | rfl | rfl | rfl
    all_goals
      have H := @Int.ofNat_eq_natCast
      refine goB ?_
      first | exact trivial | clear H | skip
      try rfl
  · have e : arF o = -1 := by unfold arF; rw [if_neg h]
    have f : ∀ k : Int, 0 ≤ k → k ≤ 13 → (o == k) = false := fun k h0 h1 => by simp; omega
    have f0 := f 0 (by omega) (by omega)
    have f1 := f 1 (by omega) (by omega)
    have f2 := f 2 (by omega) (by omega)
    have f3 := f 3 (by omega) (by omega)
    have f4 := f 4 (by omega) (by omega)
    have f5 := f 5 (by omega) (by omega)
    have f6 := f 6 (by omega) (by omega)
    have f7 := f 7 (by omega) (by omega)
    have f8 := f 8 (by omega) (by omega)
    have f9 := f 9 (by omega) (by omega)
    have f10 := f 10 (by omega) (by omega)
    have f11 := f 11 (by omega) (by omega)
    have f12 := f 12 (by omega) (by omega)
    have f13 := f 13 (by omega) (by omega)
    refine W.of ?_
    rw [Tryd.ntmps175]
    simp only [toK, codeOf, Tryd.f175, go_sem, seval, reduceCtorEq]
    have H := And.intro @f0 (And.intro @f1 (And.intro @f2 (And.intro @f3 (And.intro @f4 (And.intro @f5 (And.intro @f6 (And.intro @f7 (And.intro @f8 (And.intro @f9 (And.intro @f10 (And.intro @f11 (And.intro @f12 (And.intro @f13 @e)))))))))))))
    refine goB ?_
    first | exact trivial | clear H | skip
theorem temporalR_ok (o : Int) : PCall (C gl) 141 [.int .i64 o] (.bool (decide (8 ≤ o) && decide (o ≤ 13))) := by
  refine pcallX (callX_of b141 (by simp [Tryd.ntmps141]) ?_) (by simp only [AllCl, cl_int, and_true]) (.bool _)
  refine W.of ?_
  rw [Tryd.ntmps141]
  simp only [toK, codeOf, Tryd.f141, go_sem, seval, reduceCtorEq]
  by_cases h : 8 ≤ o
  · have H := @h
    refine goB ?_
    first | exact trivial | clear H | skip
  · have H := @h
    refine goB ?_
    first | exact trivial | clear H | skip
mutual
theorem nodesR_le : ∀ (f : Fm) (m : Int), 0 ≤ m → 1 ≤ nodesR m f ∧ nodesR m f ≤ m + 1
  | .mk _ _ l, m, h => by
    have := nodesRL_le l m 1 h (by omega) (by omega)
    simp only [nodesR]; exact this
theorem nodesRL_le : ∀ (l : List Fm) (m n : Int), 0 ≤ m → 1 ≤ n → n ≤ m + 1 → 1 ≤ nodesRL m l n ∧ nodesRL m l n ≤ m + 1
  | [], m, n, h0, h1, h2 => by simp only [nodesRL]; exact ⟨h1, h2⟩
  | f :: l, m, n, h0, h1, h2 => by
    simp only [nodesRL]
    by_cases h : n ≤ m
    · rw [if_pos h]
      have := nodesR_le f (m - n) (by omega)
      exact nodesRL_le l m _ h0 (by omega) (by omega)
    · rw [if_neg h]; exact nodesRL_le l m n h0 h1 h2
end
theorem nodesRL_take (m : Int) : ∀ (l : List Fm) (n : Int) (i : Nat) (h : i < l.length), nodesRL m (l.take (i + 1)) n = (if nodesRL m (l.take i) n ≤ m then nodesRL m (l.take i) n + nodesR (m - nodesRL m (l.take i) n) l[i] else nodesRL m (l.take i) n)
  | f :: l, n, 0, h => by simp [nodesRL]
  | f :: l, n, i + 1, h => by
    simp only [List.take_succ_cons, nodesRL, List.getElem_cons_succ]
    exact nodesRL_take m l _ i (by simpa using h)
theorem nodesR_k (o v : Int) (l : List Fm) (hlen : l.length < 9223372036854775807) (ih : ∀ g ∈ l, ∀ m : Int, 0 ≤ m → m ≤ 1000 → PCall (C gl) 64 [encF g, .int .i64 m] (.int .i64 (nodesR m g))) (m : Int) (h0 : 0 ≤ m) (h1 : m ≤ 1000) :
    PCall (C gl) 64 [encF (.mk o v l), .int .i64 m] (.int .i64 (nodesR m (.mk o v l))) := by
  refine pcallX (callX_of b64 (by simp [Tryd.ntmps64]) ?_) (by simp only [AllCl, cl_encF, cl_int, and_true]) (.int _ _)
  refine W.of ?_
  rw [Tryd.ntmps64]
  simp only [toK, codeOf, Tryd.f64, go_sem, seval, reduceCtorEq]
  have H := And.intro @encF_eq @encFs_len
  refine goB ?_
  first | exact trivial | clear H | skip
  refine WK.rangeX (l.length) [1, 2, 9] [5] (fun i => [.int .i64 (nodesRL m (l.take i) 1)]) (fun i => Sto.none.add (.box [.int .i64 o, .int .i64 v, .list false (encFs l)])) (by omega) (by decide) (by simp only [go_sem, seval, reduceCtorEq, nodesRL]) (by simp only [go_sem, seval, reduceCtorEq, nodesRL]) (by simp only [go_sem, seval, reduceCtorEq, nodesRL, List.take_zero]) (by first | rfl | (simp only [go_sem, seval, reduceCtorEq, nodesRL]; done) | (refine Sto.ext' (by simp only [go_sem, seval, reduceCtorEq, nodesRL]) (fun i => ?_); simp only [go_sem, seval, reduceCtorEq, nodesRL]; repeat' split; all_goals (first | rfl | omega | simp_all))) ?_ ?_
  · intro i hi
    simp only [go_sem, seval, reduceCtorEq]
    have H := And.intro @encFs_len (And.intro @encFs_get (And.intro @hi @encF_eq))
    refine goB ?_
    first | exact trivial | clear H | skip
    have hb := nodesRL_le (l.take i) m 1 h0 (by omega) (by omega)
    by_cases hc : nodesRL m (l.take i) 1 ≤ m
    · have hb2 := nodesR_le l[i] (m - nodesRL m (l.take i) 1) (by omega)
      have hw : IntKind.i64.wrap (m - nodesRL m (l.take i) 1) = m - nodesRL m (l.take i) 1 := wrap_lt (by omega) (by omega)
      have hw2 : IntKind.i64.wrap (nodesRL m (l.take i) 1 + nodesR (m - nodesRL m (l.take i) 1) l[i]) = nodesRL m (l.take i) 1 + nodesR (m - nodesRL m (l.take i) 1) l[i] := wrap_lt (by omega) (by omega)
      have H := And.intro @hw (And.intro @hw2 @hc)
      refine goB ?_
      first | exact trivial | clear H | skip
      refine callK_pureL (ih l[i] (List.getElem_mem hi) (m - nodesRL m (l.take i) 1) (by omega) (by omega)) rfl ?_ ?_ ?_ <;> simp only [go_sem, seval, reduceCtorEq, hw, hw2, encF_eq]
      have H := And.intro @hw (And.intro @hw2 (And.intro @nodesRL_take (And.intro @hi @hc)))
      refine goB ?_
      first | exact trivial | clear H | skip
      have H := And.intro @hw @hw2
      exact cutA
    · have H := And.intro @hc (And.intro @nodesRL_take @hi)
      refine goB ?_
      first | exact trivial | clear H | skip
      have H := trivial
      exact cutA
  · simp only [go_sem, seval, reduceCtorEq, List.take_length]
    have H := @nodesR.eq_1
    refine goB ?_
    first | exact trivial | clear H | skip
    have H := trivial
    exact cutA
theorem nodesR_ok (f : Fm) : Shrt f → ∀ m : Int, 0 ≤ m → m ≤ 1000 → PCall (C gl) 64 [encF f, .int .i64 m] (.int .i64 (nodesR m f)) := by
  induction f using Fm.ind with
  | h o v l ih =>
    intro hs
    simp only [Shrt] at hs
    exact nodesR_k o v l hs.1 fun g hg => ih g hg (hs.2.mem g hg)
theorem fewR_ok (f : Fm) (hs : Shrt f) (m : Int) (h0 : 0 ≤ m) (h1 : m ≤ 1000) : PCall (C gl) 26 [encF f, .int .i64 m] (.bool (decide (nodesR m f ≤ m))) := by
  refine pcallX (callX_of b26 (by simp [Tryd.ntmps26]) ?_) (by simp only [AllCl, cl_encF, cl_int, and_true]) (.bool _)
  refine W.of ?_
  rw [Tryd.ntmps26]
  simp only [toK, codeOf, Tryd.f26, go_sem, seval, reduceCtorEq]
  have H := @encF_eq
  refine goB ?_
  first | exact trivial | clear H | skip
  refine callK_pureL (nodesR_ok f hs m h0 h1) rfl ?_ ?_ ?_ <;> simp only [go_sem, seval, reduceCtorEq, encF_eq]
  have H := trivial
  refine goB ?_
  first | exact trivial | clear H | skip
  have H := trivial
  exact cutA
end
end Go.Sx
