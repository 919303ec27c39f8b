import Derived.Test.YtndchmmclfidgaaDoorLgAw
import Derived.Test.YtndchmmclfidgaaDoorGxE
set_option maxRecDepth 100000
set_option linter.unusedSimpArgs false
set_option linter.unusedVariables false
set_option linter.unnecessarySimpa false
namespace Go.Sx
open Go Go.Lg Go.Proofs
theorem b15 {gl : GL} : Body (C gl).P 15 Tryd.f15 (codeOf Tryd.f15) := ⟨Tryd.func15, by kernel_rfl, by kernel_rfl⟩
theorem b72 {gl : GL} : Body (C gl).P 72 Tryd.f72 (codeOf Tryd.f72) := ⟨Tryd.func72, by kernel_rfl, by kernel_rfl⟩
theorem b73 {gl : GL} : Body (C gl).P 73 Tryd.f73 (codeOf Tryd.f73) := ⟨Tryd.func73, by kernel_rfl, by kernel_rfl⟩
theorem b71 {gl : GL} : Body (C gl).P 71 Tryd.f71 (codeOf Tryd.f71) := ⟨Tryd.func71, by kernel_rfl, by kernel_rfl⟩
theorem b16 {gl : GL} : Body (C gl).P 16 Tryd.f16 (codeOf Tryd.f16) := ⟨Tryd.func16, by kernel_rfl, by kernel_rfl⟩
theorem b3 {gl : GL} : Body (C gl).P 3 Tryd.f3 (codeOf Tryd.f3) := ⟨Tryd.func3, by kernel_rfl, by kernel_rfl⟩
def formsC (c : Ct) : List Fm := c.ie :: c.is :: c.se :: c.ss :: (c.je ++ c.js)
def fewC (c : Ct) : Bool := decide (c.je.length ≤ 20) && decide (c.js.length ≤ 20) && (formsC c).all (fun f => decide (nodesR 100 f ≤ 100)) && (!validC c || decide (IntKind.i64.wrap (c.inn + c.out) ≤ 4))
section
variable {gl : GL}
theorem of_ok (fl : Bool) (o : Int) (l : List Fm) : PCall (C gl) 72 [.int .i64 o, .list fl (encFs l)] (encF (.mk o 0 l)) := by
  refine pcallX (callX_of b72 (by simp [Tryd.ntmps72]) ?_) (by simp only [AllCl, cl_int, cl_list, clE_encFs, and_true]) (by simp only [cl_encF])
  refine W.of ?_
  rw [Tryd.ntmps72]
  simp only [toK, codeOf, Tryd.f72, go_sem, seval, reduceCtorEq]
  have H := trivial
  refine goB ?_
  first | exact trivial | clear H | skip
  refine ⟨AV.le_agg ⟨.refl _, .refl _, AV.le_list' _, trivial⟩, ?_⟩
  have H := trivial
  exact cutA
theorem p_ok (v : Int) : PCall (C gl) 73 [.int .i64 v] (encF (.mk 2 v [])) := by
  refine pcallX (callX_of b73 (by simp [Tryd.ntmps73]) ?_) (by simp only [AllCl, cl_int, and_true]) (by simp only [cl_encF])
  refine W.of ?_
  rw [Tryd.ntmps73]
  simp only [toK, codeOf, Tryd.f73, go_sem, seval, reduceCtorEq]
  have H := trivial
  refine goB ?_
  first | exact trivial | clear H | skip
  refine ⟨AV.le_agg ⟨.refl _, .refl _, AV.le_list' _, trivial⟩, ?_⟩
  have H := trivial
  exact cutA
theorem few_ok (c : Ct) (hs : ShrtC c) : PCall (C gl) 15 [encC c] (.bool (fewC c)) := by
  refine pcallX (callX_of b15 (by simp [Tryd.ntmps15]) ?_) (by simp only [AllCl, cl_encC, and_true]) (.bool _)
  refine W.of ?_
  rw [Tryd.ntmps15]
  simp only [toK, codeOf, Tryd.f15, go_sem, seval, reduceCtorEq]
  by_cases h1 : c.je.length ≤ 20
  · by_cases h2 : c.js.length ≤ 20
    · have g1 : decide ((20 : Int) < (c.je.length : Int)) = false := by simp; omega
      have g2 : decide ((20 : Int) < (c.js.length : Int)) = false := by simp; omega
      have H := And.intro @encFs_len (And.intro @g1 (And.intro @g2 @ctCells.eq_1))
      refine goB ?_
      first | exact trivial | clear H | skip
      have hLl : (formsC c).length ≤ 44 := by simp only [formsC, List.length_cons, List.length_append]; omega
      have hA : 4 + (c.je.length + c.js.length) = (formsC c).length := by simp only [formsC, List.length_cons, List.length_append]; omega
      have hS : ∀ f ∈ formsC c, Shrt f := by
        obtain ⟨sie, sis, sse, sss, sje, sjs, sjel, sjsl⟩ := hs
        intro f hf
        simp only [formsC, List.mem_cons, List.mem_append] at hf
        rcases hf with rfl | rfl | rfl | rfl | hf | hf
        · exact sie
        · exact sis
        · exact sse
        · exact sss
        · exact sje.mem f hf
        · exact sjs.mem f hf
      have hL : ([AV.agg [.int .i64 c.ie.op, .int .i64 c.ie.var, .list false (encFs c.ie.args)], AV.agg [.int .i64 c.is.op, .int .i64 c.is.var, .list false (encFs c.is.args)], AV.agg [.int .i64 c.se.op, .int .i64 c.se.var, .list false (encFs c.se.args)], AV.agg [.int .i64 c.ss.op, .int .i64 c.ss.var, .list false (encFs c.ss.args)]] ++ (encFs c.je ++ encFs c.js)) = encFs (formsC c) := by
        simp only [formsC, encFs, encFs_app, encF_eq]; rfl
      simp only [List.cons_append, List.nil_append] at hL
      refine WK.draw [⟨false, 0, 0⟩, ⟨false, 0, 0⟩, ⟨false, 0, 0⟩, ⟨false, 0, 0⟩, ⟨false, 0, 0⟩, ⟨false, 0, 0⟩, ⟨false, 0, 0⟩, ⟨false, 0, 0⟩, ⟨false, 0, 0⟩, ⟨false, 0, 0⟩, ⟨false, 0, 0⟩, ⟨true, 0, 0⟩, ⟨false, 0, 0⟩, ⟨false, 1, 0⟩, ⟨true, 0, 0⟩, ⟨false, 0, 0⟩, ⟨false, 0, 0⟩] mixed (by kernel_rfl) ?_
      simp only [go_sem, seval, reduceCtorEq, hL, encFs_len, hA]
      refine appD_full (f := _) (by simp only [go_sem, seval, reduceCtorEq, hL, encFs_len, hA]; rfl) (by simp only [go_sem, seval, reduceCtorEq, hL, encFs_len, hA]; rfl)  ?_ (by simp only [go_sem, seval, reduceCtorEq, hL, encFs_len, hA]; rfl) (by simp only [go_sem, seval, reduceCtorEq, hL, encFs_len, hA]) ?_ (by kernel_rfl) (by simp only [go_sem, seval, reduceCtorEq, hL, encFs_len, hA, List.length_map, List.length_take, List.length_range, List.length_append, List.length_cons, List.length_nil]; first | done | omega) (by simp only [go_sem, seval, reduceCtorEq, hL, encFs_len, hA, List.length_map, List.length_take, List.length_range, List.length_append, List.length_cons, List.length_nil]; first | done | omega) ?_
      all_goals (try simp only [go_sem, seval, reduceCtorEq, hL, encFs_len, hA])
      all_goals (try (refine okes_map fun _ => ?_; simp only [go_sem, seval, reduceCtorEq, hL, encFs_len, hA]; done))
      have H := And.intro @hL (And.intro @encFs_len @hA)
      refine appBd ?_
      first | exact trivial | clear H | skip
      have hfew : fewC c = ((formsC c).all (fun f => decide (nodesR 100 f ≤ 100)) && (!validC c || decide (IntKind.i64.wrap (c.inn + c.out) ≤ 4))) := by
        unfold fewC; rw [decide_eq_true h1, decide_eq_true h2]; simp
      generalize formsC c = L at *
      refine WK.rangeI (L.length) [1, 29] [] (fun i => []) (fun i => (Sto.none.add (.box (ctCells c))).add (.tok 3 L.length)) (fun i => ∀ f ∈ L.take i, decide (nodesR 100 f ≤ 100) = true) (by simp) (by omega) (by decide) (by simp only [go_sem, seval, reduceCtorEq, hL, encFs_len, hA]) (by simp only [go_sem, seval, reduceCtorEq, hL, encFs_len, hA]) (by simp only [go_sem, seval, reduceCtorEq, hL, encFs_len, hA, List.take_zero]) (by first | rfl | (simp only [go_sem, seval, reduceCtorEq, hL, encFs_len, hA]; done) | (refine Sto.ext' (by simp only [go_sem, seval, reduceCtorEq, hL, encFs_len, hA]) (fun i => ?_); simp only [go_sem, seval, reduceCtorEq, hL, encFs_len, hA]; repeat' split; all_goals (first | rfl | omega | simp_all))) ?_ ?_
      · intro i hi hI
        simp only [go_sem, seval, reduceCtorEq, hL, encFs_len, hA, ctCells]
        have H := And.intro @hL (And.intro @encFs_len (And.intro @hA (And.intro @encFs_get (And.intro @hi @encF_eq))))
        refine goB ?_
        first | exact trivial | clear H | skip
        refine callK_pureL (fewR_ok (gl := gl) L[i] (hS _ (List.getElem_mem hi)) 100 (by omega) (by omega)) rfl ?_ ?_ ?_ <;> simp only [go_sem, seval, reduceCtorEq, hL, encFs_len, hA, encF_eq]
        cases hv2 : decide (nodesR 100 L[i] ≤ 100) with
        | false =>
          have H := And.intro @hL (And.intro @encFs_len (And.intro @hA @hv2))
          refine goB ?_
          first | exact trivial | clear H | skip
          have e : (L.all fun f => decide (nodesR 100 f ≤ 100)) = false := all_false hi hv2
          refine ⟨by simp [hfew, e], ?_⟩
          have H := And.intro @hL (And.intro @encFs_len @hA)
          exact cutA
        | true =>
          have H := And.intro @hL (And.intro @encFs_len (And.intro @hA (And.intro @ctCells.eq_1 @hv2)))
          refine goB ?_
          first | exact trivial | clear H | skip
          refine ⟨take_step hi hI hv2, ?_⟩
          have H := And.intro @hL (And.intro @encFs_len @hA)
          exact cutA
      · intro hI
        rw [List.take_length] at hI
        have e : (L.all fun f => decide (nodesR 100 f ≤ 100)) = true := List.all_eq_true.2 hI
        rw [e, Bool.true_and] at hfew
        simp only [go_sem, seval, reduceCtorEq, hL, encFs_len, hA, ctCells]
        have H := And.intro @hL (And.intro @encFs_len @hA)
        refine goB ?_
        first | exact trivial | clear H | skip
        cases hv : validC c with
        | false =>
          refine callK_pureL (rvalid_ok (gl := gl) c hs) rfl ?_ ?_ ?_ <;> simp only [go_sem, seval, reduceCtorEq, hL, encFs_len, hA, encC_eq, ctCells, rvalC_eq, hv]
          have H := And.intro @hL (And.intro @encFs_len (And.intro @hA (And.intro @hfew (And.intro @hv @Bool.not_false))))
          refine goB ?_
          first | exact trivial | clear H | skip
          have H := And.intro @hL (And.intro @encFs_len @hA)
          exact cutA
        | true =>
          refine callK_pureL (rvalid_ok (gl := gl) c hs) rfl ?_ ?_ ?_ <;> simp only [go_sem, seval, reduceCtorEq, hL, encFs_len, hA, encC_eq, ctCells, rvalC_eq, hv]
          have H := And.intro @hL (And.intro @encFs_len (And.intro @hA (And.intro @hfew (And.intro @hv @Bool.not_true))))
          refine goB ?_
          first | exact trivial | clear H | skip
          have H := And.intro @hL (And.intro @encFs_len @hA)
          exact cutA
    · have g1 : decide ((20 : Int) < (c.je.length : Int)) = false := by simp; omega
      have g2 : decide ((20 : Int) < (c.js.length : Int)) = true := by simp; omega
      have e : fewC c = false := by unfold fewC; rw [decide_eq_false h2]; simp
      have H := And.intro @encFs_len (And.intro @g1 (And.intro @g2 (And.intro @ctCells.eq_1 @e)))
      refine goB ?_
      first | exact trivial | clear H | skip
      have H := trivial
      exact cutA
  · have g1 : decide ((20 : Int) < (c.je.length : Int)) = true := by simp; omega
    have e : fewC c = false := by unfold fewC; rw [decide_eq_false h1]; simp
    have H := And.intro @encFs_len (And.intro @g1 (And.intro @ctCells.eq_1 @e))
    refine goB ?_
    first | exact trivial | clear H | skip
    have H := trivial
    exact cutA
theorem example_ok (f : Fm) : PCall (C gl) 71 [encF f] (encC ⟨1, 1, .mk 0 0 [], .mk 0 0 [], .mk 0 0 [], f, [.mk 3 0 [.mk 2 0 []]], [.mk 3 0 [.mk 2 1 []]]⟩) := by
  refine pcallX (callX_of b71 (by simp [Tryd.ntmps71]) ?_) (by simp only [AllCl, cl_encF, and_true]) (by simp only [cl_encC])
  refine W.of ?_
  rw [Tryd.ntmps71]
  simp only [toK, codeOf, Tryd.f71, go_sem, seval, reduceCtorEq]
  have H := @encF_eq
  refine goB ?_
  first | exact trivial | clear H | skip
  refine WK.draw [⟨false, 0, 4⟩, ⟨false, 0, 4⟩, ⟨false, 0, 4⟩, ⟨false, 0, 4⟩, ⟨true, 0, 0⟩, ⟨false, 0, 0⟩, ⟨true, 0, 0⟩, ⟨false, 0, 0⟩, ⟨true, 0, 0⟩, ⟨false, 0, 0⟩, ⟨true, 0, 0⟩, ⟨false, 0, 0⟩, ⟨false, 0, 0⟩, ⟨true, 0, 0⟩] mixed (by kernel_rfl) ?_
  simp only [go_sem, seval, reduceCtorEq]
  refine callD_pure (p_ok (gl := gl) 0) rfl ?_ ?_ ?_ <;> simp only [go_sem, seval, reduceCtorEq, encF_eq]
  refine callD_pure (of_ok (gl := gl) true 3 [.mk 2 0 []]) rfl ?_ ?_ ?_ <;> simp only [go_sem, seval, reduceCtorEq, encF_eq, encFs]
  refine callD_pure (p_ok (gl := gl) 1) rfl ?_ ?_ ?_ <;> simp only [go_sem, seval, reduceCtorEq, encF_eq]
  refine callD_pure (of_ok (gl := gl) true 3 [.mk 2 1 []]) rfl ?_ ?_ ?_ <;> simp only [go_sem, seval, reduceCtorEq, encF_eq, encFs]
  have H := trivial
  refine goB ?_
  first | exact trivial | clear H | skip
  refine ⟨AV.le_agg ⟨.refl _, .refl _, .refl _, .refl _, AV.le_list' _, .refl _, .refl _, AV.le_list' _, .refl _, .refl _, AV.le_list' _, .refl _, .refl _, .refl _, AV.le_list' _, AV.le_list' _, trivial⟩, ?_⟩
  have H := trivial
  exact cutA
def exC (f : Fm) : Ct := ⟨1, 1, .mk 0 0 [], .mk 0 0 [], .mk 0 0 [], f, [.mk 3 0 [.mk 2 0 []]], [.mk 3 0 [.mk 2 1 []]]⟩
def ex1 : Fm := .mk 6 0 [.mk 2 0 [], .mk 8 0 [.mk 2 1 []]]
def ex2 : Fm := .mk 7 0 [.mk 2 1 [], .mk 8 0 [.mk 2 0 []]]
theorem awake_ok (k1 : PCall (C gl) 19 [encC (exC ex1)] (.tup [.bool true, .int .i64 0])) (k2 : PCall (C gl) 19 [encC (exC ex2)] (.tup [.bool false, .int .i64 0])) : PCall (C gl) 16 [] (.bool true) := by
  refine pcallX (callX_of b16 (by simp [Tryd.ntmps16]) ?_) (by simp only [AllCl]) (.bool _)
  refine W.of ?_
  rw [Tryd.ntmps16]
  simp only [toK, codeOf, Tryd.f16, go_sem, seval, reduceCtorEq]
  have H := trivial
  refine goB ?_
  first | exact trivial | clear H | skip
  refine callK_pureL (p_ok (gl := gl) 0) rfl ?_ ?_ ?_ <;> simp only [go_sem, seval, reduceCtorEq, encF_eq]
  refine callK_pureL (p_ok (gl := gl) 1) rfl ?_ ?_ ?_ <;> simp only [go_sem, seval, reduceCtorEq, encF_eq]
  refine callK_pureL (of_ok (gl := gl) true 8 [.mk 2 1 []]) rfl ?_ ?_ ?_ <;> simp only [go_sem, seval, reduceCtorEq, encF_eq, encFs]
  refine callK_pureL (of_ok (gl := gl) true 6 [.mk 2 0 [], .mk 8 0 [.mk 2 1 []]]) rfl ?_ ?_ ?_ <;> simp only [go_sem, seval, reduceCtorEq, encF_eq, encFs]
  refine callK_pureL (example_ok (gl := gl) ex1) rfl ?_ ?_ ?_ <;> simp only [go_sem, seval, reduceCtorEq, encF_eq, exC, ex1]
  · exact .refl _
  refine callK_pureL (k1) rfl ?_ ?_ ?_ <;> simp only [go_sem, seval, reduceCtorEq, exC, ex1]
  have H := trivial
  refine goB ?_
  first | exact trivial | clear H | skip
  refine callK_pureL (p_ok (gl := gl) 1) rfl ?_ ?_ ?_ <;> simp only [go_sem, seval, reduceCtorEq, encF_eq]
  refine callK_pureL (p_ok (gl := gl) 0) rfl ?_ ?_ ?_ <;> simp only [go_sem, seval, reduceCtorEq, encF_eq]
  refine callK_pureL (of_ok (gl := gl) true 8 [.mk 2 0 []]) rfl ?_ ?_ ?_ <;> simp only [go_sem, seval, reduceCtorEq, encF_eq, encFs]
  refine callK_pureL (of_ok (gl := gl) true 7 [.mk 2 1 [], .mk 8 0 [.mk 2 0 []]]) rfl ?_ ?_ ?_ <;> simp only [go_sem, seval, reduceCtorEq, encF_eq, encFs]
  refine callK_pureL (example_ok (gl := gl) ex2) rfl ?_ ?_ ?_ <;> simp only [go_sem, seval, reduceCtorEq, encF_eq, exC, ex2]
  · exact .refl _
  refine callK_pureL (k2) rfl ?_ ?_ ?_ <;> simp only [go_sem, seval, reduceCtorEq, exC, ex2]
  have H := trivial
  refine goB ?_
  first | exact trivial | clear H | skip
end
end Go.Sx
