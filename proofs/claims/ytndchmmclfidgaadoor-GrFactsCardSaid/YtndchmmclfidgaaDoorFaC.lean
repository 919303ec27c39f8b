import Derived.Test.YtndchmmclfidgaaDoorFaB
set_option maxRecDepth 100000
set_option linter.unusedSimpArgs false
set_option linter.unusedVariables false
set_option linter.unnecessarySimpa false
namespace Go.Sx
open Go Go.Lg Go.Proofs
theorem b6 {gl : GL} : Body (C gl).P 6 Tryd.f6 (codeOf Tryd.f6) := ⟨Tryd.func6, by kernel_rfl, by kernel_rfl⟩

section
variable {gl : GL} (har : gl.at' 0 = arityA)
include har
omit har in
theorem shrt_fmlR {c : Ct} (hs : ShrtC c) : Shrt (fmlR c).1 := by
  unfold fmlR
  split
  · split
    · exact shrt_fml hs
    · simp [zF, Shrt, ShrtL]
  · simp [zF, Shrt, ShrtL]
set_option maxHeartbeats 1000000 in
theorem grfacts_true (c : Ct) (l k : Int) (hs : ShrtC c) : PCall (C gl) 6 [encC c, .int .i64 l, .int .i64 k] (.bool true) := by
  refine pcallX (callX_of b6 (by simp [Tryd.ntmps6]) ?_) (by simp only [AllCl, cl_encC, cl_int, and_true]) (.bool _)
  have hk := awake_yes (gl := gl) har
  refine W.of ?_
  rw [Tryd.ntmps6]
  simp only [toK, codeOf, Tryd.f6, go_sem, seval, reduceCtorEq]
  try simp only [go_sem, seval, reduceCtorEq, ctCells]
  repeat (first | refine WK.blockSeq ?_ | refine WK.blockCond ?_ | refine WK.blockReg ?_ | (refine WK.condT ?_ ?_; (focus (simp only [go_sem, seval, reduceCtorEq, ctCells]; done))) | (refine WK.condF ?_ ?_; (focus (simp only [go_sem, seval, reduceCtorEq, ctCells]; done))) | refine WK.seq ?_ | ((first | refine WK.reg ?_ | refine WK.skip ?_ | refine WK.ret ?_ | refine WK.exit ?_); simp only [go_sem, seval, reduceCtorEq, ctCells]) | ((with_reducible refine And.intro ?_ ?_); omega) | omega)
  refine callK_pureL (few_ok (gl := gl) c hs) rfl ?_ ?_ ?_ <;> simp only [go_sem, seval, reduceCtorEq, ctCells]
  cases hfc : fewC c with
  | false =>
    try simp only [go_sem, seval, reduceCtorEq]
    repeat (first | refine WK.blockSeq ?_ | refine WK.blockCond ?_ | refine WK.blockReg ?_ | (refine WK.condT ?_ ?_; (focus (simp only [go_sem, seval, reduceCtorEq]; done))) | (refine WK.condF ?_ ?_; (focus (simp only [go_sem, seval, reduceCtorEq]; done))) | refine WK.seq ?_ | ((first | refine WK.reg ?_ | refine WK.skip ?_ | refine WK.ret ?_ | refine WK.exit ?_); simp only [go_sem, seval, reduceCtorEq]) | ((with_reducible refine And.intro ?_ ?_); omega) | omega)
    refine callK_pureL (hk) rfl ?_ ?_ ?_ <;> simp only [go_sem, seval, reduceCtorEq]
    try simp only [go_sem, seval, reduceCtorEq]
    repeat (first | refine WK.blockSeq ?_ | refine WK.blockCond ?_ | refine WK.blockReg ?_ | (refine WK.condT ?_ ?_; (focus (simp only [go_sem, seval, reduceCtorEq]; done))) | (refine WK.condF ?_ ?_; (focus (simp only [go_sem, seval, reduceCtorEq]; done))) | refine WK.seq ?_ | ((first | refine WK.reg ?_ | refine WK.skip ?_ | refine WK.ret ?_ | refine WK.exit ?_); simp only [go_sem, seval, reduceCtorEq]) | ((with_reducible refine And.intro ?_ ?_); omega) | omega)
    refine Cut.by' (by first | exact Nat.le_refl _ | (simp only [Sto.get_add, Sto.get_set, Sto.get_del, Sto.get_none, Sto.next_add, Sto.next_set, Sto.next_del, Sto.next_none]; omega)) (by first | exact Nat.le_refl _ | (simp only [Sto.get_add, Sto.get_set, Sto.get_del, Sto.get_none, Sto.next_add, Sto.next_set, Sto.next_del, Sto.next_none]; omega)) (fun i hi => ?_) (fun i o hi ho => ?_)
    · (try simp only [Sto.get_add, Sto.get_set, Sto.get_del, Sto.get_none, Sto.next_add, Sto.next_set, Sto.next_del, Sto.next_none] at hi ⊢); ((repeat' split) <;> first | exact .inl rfl | exact .inr rfl | omega | (simp_all; done))
    · (try simp only [Sto.get_add, Sto.get_set, Sto.get_del, Sto.get_none, Sto.next_add, Sto.next_set, Sto.next_del, Sto.next_none] at hi ho ⊢); ((repeat' split at ho) <;> (repeat' split) <;> first | (exact ⟨ho, .inl ho⟩) | (cases ho; done) | omega | (cases ho; refine ⟨rfl, .inl rfl⟩) | (cases ho; refine ⟨rfl, .inr ?_⟩; simp only [go_sem, seval, reduceCtorEq]; first | done | omega | (refine ⟨?_, ?_⟩ <;> omega)) | (simp_all; done))
  | true =>
  have hfc' := hfc
  simp only [fewC, Bool.and_eq_true, decide_eq_true_eq] at hfc'
  obtain ⟨⟨⟨hje, hjs⟩, _⟩, _⟩ := hfc'
  have h1 := gformula_ok (gl := gl) har c hs (by omega) (by omega)
  have h2 := rformula_ok (gl := gl) c hs (by omega) (by omega)
  have h3 := gspec_ok (gl := gl) har c hs (by omega) (by omega)
  have hsf := shrt_fmlR hs
  have hz : (fmlR c).2 = 0 ∨ ((fmlR c).2 == 0) = false := by
    by_cases h : (fmlR c).2 = 0
    · exact .inl h
    · exact .inr (by simpa using h)
  generalize fmlR c = r at *
  obtain ⟨f, e⟩ := r
  simp only at h1 h2 h3 hsf hz
  have hsm := sameR_ok (gl := gl) f hsf f
  rw [sameF_self] at hsm
  try simp only [go_sem, seval, reduceCtorEq, bne_self_eq_false, beq_self_eq_true, List.length_cons, List.length_nil, ctCells]
  repeat (first | refine WK.blockSeq ?_ | refine WK.blockCond ?_ | refine WK.blockReg ?_ | (refine WK.condT ?_ ?_; (focus (simp only [go_sem, seval, reduceCtorEq, bne_self_eq_false, beq_self_eq_true, List.length_cons, List.length_nil, ctCells]; done))) | (refine WK.condF ?_ ?_; (focus (simp only [go_sem, seval, reduceCtorEq, bne_self_eq_false, beq_self_eq_true, List.length_cons, List.length_nil, ctCells]; done))) | refine WK.seq ?_ | ((first | refine WK.reg ?_ | refine WK.skip ?_ | refine WK.ret ?_ | refine WK.exit ?_); simp only [go_sem, seval, reduceCtorEq, bne_self_eq_false, beq_self_eq_true, List.length_cons, List.length_nil, ctCells]) | ((with_reducible refine And.intro ?_ ?_); omega) | omega)
  refine callK_pureL (h1) rfl ?_ ?_ ?_ <;> simp only [go_sem, seval, reduceCtorEq, bne_self_eq_false, beq_self_eq_true, List.length_cons, List.length_nil, encC_eq, ctCells, encF_eq]
  try simp only [go_sem, seval, reduceCtorEq, bne_self_eq_false, beq_self_eq_true, List.length_cons, List.length_nil]
  repeat (first | refine WK.blockSeq ?_ | refine WK.blockCond ?_ | refine WK.blockReg ?_ | (refine WK.condT ?_ ?_; (focus (simp only [go_sem, seval, reduceCtorEq, bne_self_eq_false, beq_self_eq_true, List.length_cons, List.length_nil]; done))) | (refine WK.condF ?_ ?_; (focus (simp only [go_sem, seval, reduceCtorEq, bne_self_eq_false, beq_self_eq_true, List.length_cons, List.length_nil]; done))) | refine WK.seq ?_ | ((first | refine WK.reg ?_ | refine WK.skip ?_ | refine WK.ret ?_ | refine WK.exit ?_); simp only [go_sem, seval, reduceCtorEq, bne_self_eq_false, beq_self_eq_true, List.length_cons, List.length_nil]) | ((with_reducible refine And.intro ?_ ?_); omega) | omega)
  refine callK_pureL (h2) rfl ?_ ?_ ?_ <;> simp only [go_sem, seval, reduceCtorEq, bne_self_eq_false, beq_self_eq_true, List.length_cons, List.length_nil, encC_eq, ctCells, encF_eq]
  try simp only [go_sem, seval, reduceCtorEq, bne_self_eq_false, beq_self_eq_true, List.length_cons, List.length_nil]
  repeat (first | refine WK.blockSeq ?_ | refine WK.blockCond ?_ | refine WK.blockReg ?_ | (refine WK.condT ?_ ?_; (focus (simp only [go_sem, seval, reduceCtorEq, bne_self_eq_false, beq_self_eq_true, List.length_cons, List.length_nil]; done))) | (refine WK.condF ?_ ?_; (focus (simp only [go_sem, seval, reduceCtorEq, bne_self_eq_false, beq_self_eq_true, List.length_cons, List.length_nil]; done))) | refine WK.seq ?_ | ((first | refine WK.reg ?_ | refine WK.skip ?_ | refine WK.ret ?_ | refine WK.exit ?_); simp only [go_sem, seval, reduceCtorEq, bne_self_eq_false, beq_self_eq_true, List.length_cons, List.length_nil]) | ((with_reducible refine And.intro ?_ ?_); omega) | omega)
  refine callK_pureL (ggood_ok (gl := gl) har c l k hs) rfl ?_ ?_ ?_ <;> simp only [go_sem, seval, reduceCtorEq, bne_self_eq_false, beq_self_eq_true, List.length_cons, List.length_nil, encC_eq, ctCells]
  try simp only [go_sem, seval, reduceCtorEq, bne_self_eq_false, beq_self_eq_true, List.length_cons, List.length_nil]
  repeat (first | refine WK.blockSeq ?_ | refine WK.blockCond ?_ | refine WK.blockReg ?_ | (refine WK.condT ?_ ?_; (focus (simp only [go_sem, seval, reduceCtorEq, bne_self_eq_false, beq_self_eq_true, List.length_cons, List.length_nil]; done))) | (refine WK.condF ?_ ?_; (focus (simp only [go_sem, seval, reduceCtorEq, bne_self_eq_false, beq_self_eq_true, List.length_cons, List.length_nil]; done))) | refine WK.seq ?_ | ((first | refine WK.reg ?_ | refine WK.skip ?_ | refine WK.ret ?_ | refine WK.exit ?_); simp only [go_sem, seval, reduceCtorEq, bne_self_eq_false, beq_self_eq_true, List.length_cons, List.length_nil]) | ((with_reducible refine And.intro ?_ ?_); omega) | omega)
  refine callK_pureL (rgood_ok (gl := gl) c l k hs) rfl ?_ ?_ ?_ <;> simp only [go_sem, seval, reduceCtorEq, bne_self_eq_false, beq_self_eq_true, List.length_cons, List.length_nil, encC_eq, ctCells]
  generalize goodR c l k = gr
  obtain ⟨g1, g2, g3⟩ := gr
  try simp only [go_sem, seval, reduceCtorEq, bne_self_eq_false, beq_self_eq_true, List.length_cons, List.length_nil]
  repeat (first | refine WK.blockSeq ?_ | refine WK.blockCond ?_ | refine WK.blockReg ?_ | (refine WK.condT ?_ ?_; (focus (simp only [go_sem, seval, reduceCtorEq, bne_self_eq_false, beq_self_eq_true, List.length_cons, List.length_nil]; done))) | (refine WK.condF ?_ ?_; (focus (simp only [go_sem, seval, reduceCtorEq, bne_self_eq_false, beq_self_eq_true, List.length_cons, List.length_nil]; done))) | refine WK.seq ?_ | ((first | refine WK.reg ?_ | refine WK.skip ?_ | refine WK.ret ?_ | refine WK.exit ?_); simp only [go_sem, seval, reduceCtorEq, bne_self_eq_false, beq_self_eq_true, List.length_cons, List.length_nil]) | ((with_reducible refine And.intro ?_ ?_); omega) | omega)
  rcases hz with hz | hz
  · subst hz
    simp only [if_true] at h3
    refine callK_pureL (h3) rfl ?_ ?_ ?_ <;> simp only [go_sem, seval, reduceCtorEq, bne_self_eq_false, beq_self_eq_true, List.length_cons, List.length_nil, encC_eq, ctCells, encS, encFs, encF_eq]
    try simp only [go_sem, seval, reduceCtorEq, bne_self_eq_false, beq_self_eq_true, List.length_cons, List.length_nil]
    repeat (first | refine WK.blockSeq ?_ | refine WK.blockCond ?_ | refine WK.blockReg ?_ | (refine WK.condT ?_ ?_; (focus (simp only [go_sem, seval, reduceCtorEq, bne_self_eq_false, beq_self_eq_true, List.length_cons, List.length_nil]; done))) | (refine WK.condF ?_ ?_; (focus (simp only [go_sem, seval, reduceCtorEq, bne_self_eq_false, beq_self_eq_true, List.length_cons, List.length_nil]; done))) | refine WK.seq ?_ | ((first | refine WK.reg ?_ | refine WK.skip ?_ | refine WK.ret ?_ | refine WK.exit ?_); simp only [go_sem, seval, reduceCtorEq, bne_self_eq_false, beq_self_eq_true, List.length_cons, List.length_nil]) | ((with_reducible refine And.intro ?_ ?_); omega) | omega)
    refine WK.draw [⟨false, 0, 0⟩, ⟨false, 0, 0⟩, ⟨false, 0, 0⟩, ⟨false, 0, 0⟩, ⟨false, 0, 0⟩, ⟨false, 0, 0⟩, ⟨false, 0, 0⟩, ⟨false, 0, 0⟩, ⟨false, 0, 0⟩, ⟨false, 0, 0⟩, ⟨false, 0, 0⟩, ⟨false, 0, 0⟩, ⟨false, 0, 0⟩, ⟨false, 0, 0⟩, ⟨false, 0, 0⟩, ⟨false, 0, 0⟩, ⟨false, 0, 0⟩, ⟨false, 0, 0⟩, ⟨false, 0, 0⟩, ⟨false, 0, 0⟩, ⟨false, 0, 0⟩, ⟨false, 0, 0⟩, ⟨false, 0, 0⟩, ⟨false, 0, 0⟩, ⟨false, 0, 0⟩, ⟨false, 0, 0⟩, ⟨false, 0, 0⟩, ⟨false, 0, 0⟩, ⟨false, 0, 0⟩, ⟨false, 0, 0⟩, ⟨false, 0, 0⟩, ⟨false, 0, 0⟩, ⟨false, 0, 0⟩, ⟨false, 0, 0⟩, ⟨false, 0, 0⟩, ⟨false, 0, 0⟩, ⟨false, 0, 0⟩, ⟨true, 0, 0⟩, ⟨false, 0, 0⟩, ⟨false, 0, 0⟩, ⟨false, 0, 0⟩, ⟨false, 0, 0⟩] mixed (by kernel_rfl) ?_
    simp only [go_sem, seval, reduceCtorEq, bne_self_eq_false, beq_self_eq_true, List.length_cons, List.length_nil]
    refine callD_pure (hsm) rfl ?_ ?_ ?_ <;> simp only [go_sem, seval, reduceCtorEq, bne_self_eq_false, beq_self_eq_true, List.length_cons, List.length_nil, encF_eq]
    try simp only [go_sem, seval, reduceCtorEq, bne_self_eq_false, beq_self_eq_true, List.length_cons, List.length_nil]
    repeat (first | refine WK.blockSeq ?_ | refine WK.blockCond ?_ | refine WK.blockReg ?_ | (refine WK.condT ?_ ?_; (focus (simp only [go_sem, seval, reduceCtorEq, bne_self_eq_false, beq_self_eq_true, List.length_cons, List.length_nil]; done))) | (refine WK.condF ?_ ?_; (focus (simp only [go_sem, seval, reduceCtorEq, bne_self_eq_false, beq_self_eq_true, List.length_cons, List.length_nil]; done))) | refine WK.seq ?_ | ((first | refine WK.reg ?_ | refine WK.skip ?_ | refine WK.ret ?_ | refine WK.exit ?_); simp only [go_sem, seval, reduceCtorEq, bne_self_eq_false, beq_self_eq_true, List.length_cons, List.length_nil]) | ((with_reducible refine And.intro ?_ ?_); omega) | omega)
    refine WK.draw [⟨false, 0, 0⟩, ⟨true, 0, 0⟩, ⟨false, 1, 0⟩, ⟨true, 0, 0⟩, ⟨false, 0, 0⟩, ⟨false, 0, 0⟩, ⟨false, 0, 0⟩, ⟨false, 0, 0⟩, ⟨false, 0, 0⟩, ⟨false, 0, 0⟩, ⟨false, 0, 0⟩, ⟨false, 0, 0⟩, ⟨false, 0, 0⟩, ⟨true, 0, 0⟩, ⟨false, 0, 0⟩, ⟨false, 0, 0⟩, ⟨false, 0, 0⟩, ⟨false, 0, 0⟩, ⟨false, 0, 0⟩, ⟨false, 0, 0⟩, ⟨false, 0, 0⟩, ⟨false, 0, 0⟩, ⟨false, 0, 0⟩, ⟨false, 0, 0⟩, ⟨false, 0, 0⟩, ⟨false, 0, 0⟩, ⟨false, 0, 0⟩, ⟨false, 0, 0⟩, ⟨false, 0, 0⟩, ⟨false, 0, 0⟩, ⟨false, 0, 0⟩, ⟨true, 0, 0⟩, ⟨false, 0, 0⟩, ⟨false, 0, 0⟩] mixed (by kernel_rfl) ?_
    simp only [go_sem, seval, reduceCtorEq, bne_self_eq_false, beq_self_eq_true, List.length_cons, List.length_nil]
    refine callD_pure (gvalid_ok (gl := gl) har c hs) rfl ?_ ?_ ?_ <;> simp only [go_sem, seval, reduceCtorEq, bne_self_eq_false, beq_self_eq_true, List.length_cons, List.length_nil, encC_eq, ctCells]
    refine callD_pure (rvalid_ok (gl := gl) c hs) rfl ?_ ?_ ?_ <;> simp only [go_sem, seval, reduceCtorEq, bne_self_eq_false, beq_self_eq_true, List.length_cons, List.length_nil, encC_eq, ctCells, rvalC_eq]
    refine callD_pure (hsm) rfl ?_ ?_ ?_ <;> simp only [go_sem, seval, reduceCtorEq, bne_self_eq_false, beq_self_eq_true, List.length_cons, List.length_nil, encF_eq]
    refine callD_pure (hk) rfl ?_ ?_ ?_ <;> simp only [go_sem, seval, reduceCtorEq, bne_self_eq_false, beq_self_eq_true, List.length_cons, List.length_nil]
    try simp only [go_sem, seval, reduceCtorEq, bne_self_eq_false, beq_self_eq_true, List.length_cons, List.length_nil]
    repeat (first | refine WK.blockSeq ?_ | refine WK.blockCond ?_ | refine WK.blockReg ?_ | (refine WK.condT ?_ ?_; (focus (simp only [go_sem, seval, reduceCtorEq, bne_self_eq_false, beq_self_eq_true, List.length_cons, List.length_nil]; done))) | (refine WK.condF ?_ ?_; (focus (simp only [go_sem, seval, reduceCtorEq, bne_self_eq_false, beq_self_eq_true, List.length_cons, List.length_nil]; done))) | refine WK.seq ?_ | ((first | refine WK.reg ?_ | refine WK.skip ?_ | refine WK.ret ?_ | refine WK.exit ?_); simp only [go_sem, seval, reduceCtorEq, bne_self_eq_false, beq_self_eq_true, List.length_cons, List.length_nil]) | ((with_reducible refine And.intro ?_ ?_); omega) | omega)
    refine Cut.by' (by first | exact Nat.le_refl _ | (simp only [Sto.get_add, Sto.get_set, Sto.get_del, Sto.get_none, Sto.next_add, Sto.next_set, Sto.next_del, Sto.next_none]; omega)) (by first | exact Nat.le_refl _ | (simp only [Sto.get_add, Sto.get_set, Sto.get_del, Sto.get_none, Sto.next_add, Sto.next_set, Sto.next_del, Sto.next_none]; omega)) (fun i hi => ?_) (fun i o hi ho => ?_)
    · (try simp only [Sto.get_add, Sto.get_set, Sto.get_del, Sto.get_none, Sto.next_add, Sto.next_set, Sto.next_del, Sto.next_none] at hi ⊢); ((repeat' split) <;> first | exact .inl rfl | exact .inr rfl | omega | (simp_all; done))
    · (try simp only [Sto.get_add, Sto.get_set, Sto.get_del, Sto.get_none, Sto.next_add, Sto.next_set, Sto.next_del, Sto.next_none] at hi ho ⊢); ((repeat' split at ho) <;> (repeat' split) <;> first | (exact ⟨ho, .inl ho⟩) | (cases ho; done) | omega | (cases ho; refine ⟨rfl, .inl rfl⟩) | (cases ho; refine ⟨rfl, .inr ?_⟩; simp only [go_sem, seval, reduceCtorEq, bne_self_eq_false, beq_self_eq_true, List.length_cons, List.length_nil]; first | done | omega | (refine ⟨?_, ?_⟩ <;> omega)) | (simp_all; done))
  · have hz' : ¬ e = 0 := by simpa using hz
    simp only [if_neg hz'] at h3
    refine callK_pureL (h3) rfl ?_ ?_ ?_ <;> simp only [go_sem, seval, reduceCtorEq, bne_self_eq_false, beq_self_eq_true, List.length_cons, List.length_nil, hz, encC_eq, ctCells, encS, encFs, encF_eq]
    try simp only [go_sem, seval, reduceCtorEq, bne_self_eq_false, beq_self_eq_true, List.length_cons, List.length_nil, hz]
    repeat (first | refine WK.blockSeq ?_ | refine WK.blockCond ?_ | refine WK.blockReg ?_ | (refine WK.condT ?_ ?_; (focus (simp only [go_sem, seval, reduceCtorEq, bne_self_eq_false, beq_self_eq_true, List.length_cons, List.length_nil, hz]; done))) | (refine WK.condF ?_ ?_; (focus (simp only [go_sem, seval, reduceCtorEq, bne_self_eq_false, beq_self_eq_true, List.length_cons, List.length_nil, hz]; done))) | refine WK.seq ?_ | ((first | refine WK.reg ?_ | refine WK.skip ?_ | refine WK.ret ?_ | refine WK.exit ?_); simp only [go_sem, seval, reduceCtorEq, bne_self_eq_false, beq_self_eq_true, List.length_cons, List.length_nil, hz]) | ((with_reducible refine And.intro ?_ ?_); omega) | omega)
    refine WK.draw [⟨false, 0, 0⟩, ⟨false, 0, 0⟩, ⟨false, 0, 0⟩, ⟨false, 0, 0⟩, ⟨false, 0, 0⟩, ⟨false, 0, 0⟩, ⟨false, 0, 0⟩, ⟨false, 0, 0⟩, ⟨false, 0, 0⟩, ⟨false, 0, 0⟩, ⟨false, 0, 0⟩, ⟨false, 0, 0⟩, ⟨false, 0, 0⟩, ⟨false, 0, 0⟩, ⟨false, 0, 0⟩, ⟨false, 0, 0⟩, ⟨false, 0, 0⟩, ⟨false, 0, 0⟩, ⟨false, 0, 0⟩, ⟨false, 0, 0⟩, ⟨false, 0, 0⟩, ⟨false, 0, 0⟩, ⟨false, 0, 0⟩, ⟨false, 0, 0⟩, ⟨false, 0, 0⟩, ⟨false, 0, 0⟩, ⟨false, 0, 0⟩, ⟨false, 0, 0⟩, ⟨false, 0, 0⟩, ⟨false, 0, 0⟩, ⟨false, 0, 0⟩, ⟨false, 0, 0⟩, ⟨false, 0, 0⟩, ⟨false, 0, 0⟩, ⟨false, 0, 0⟩, ⟨false, 0, 0⟩, ⟨false, 0, 0⟩, ⟨true, 0, 0⟩, ⟨false, 0, 0⟩, ⟨false, 0, 0⟩, ⟨false, 0, 0⟩, ⟨false, 0, 0⟩] mixed (by kernel_rfl) ?_
    simp only [go_sem, seval, reduceCtorEq, bne_self_eq_false, beq_self_eq_true, List.length_cons, List.length_nil, hz]
    try simp only [go_sem, seval, reduceCtorEq, bne_self_eq_false, beq_self_eq_true, List.length_cons, List.length_nil, hz]
    repeat (first | refine WK.blockSeq ?_ | refine WK.blockCond ?_ | refine WK.blockReg ?_ | (refine WK.condT ?_ ?_; (focus (simp only [go_sem, seval, reduceCtorEq, bne_self_eq_false, beq_self_eq_true, List.length_cons, List.length_nil, hz]; done))) | (refine WK.condF ?_ ?_; (focus (simp only [go_sem, seval, reduceCtorEq, bne_self_eq_false, beq_self_eq_true, List.length_cons, List.length_nil, hz]; done))) | refine WK.seq ?_ | ((first | refine WK.reg ?_ | refine WK.skip ?_ | refine WK.ret ?_ | refine WK.exit ?_); simp only [go_sem, seval, reduceCtorEq, bne_self_eq_false, beq_self_eq_true, List.length_cons, List.length_nil, hz]) | ((with_reducible refine And.intro ?_ ?_); omega) | omega)
    refine WK.draw [⟨false, 0, 0⟩, ⟨true, 0, 0⟩, ⟨false, 1, 0⟩, ⟨true, 0, 0⟩, ⟨false, 0, 0⟩, ⟨false, 0, 0⟩, ⟨false, 0, 0⟩, ⟨false, 0, 0⟩, ⟨false, 0, 0⟩, ⟨false, 0, 0⟩, ⟨false, 0, 0⟩, ⟨false, 0, 0⟩, ⟨false, 0, 0⟩, ⟨true, 0, 0⟩, ⟨false, 0, 0⟩, ⟨false, 0, 0⟩, ⟨false, 0, 0⟩, ⟨false, 0, 0⟩, ⟨false, 0, 0⟩, ⟨false, 0, 0⟩, ⟨false, 0, 0⟩, ⟨false, 0, 0⟩, ⟨false, 0, 0⟩, ⟨false, 0, 0⟩, ⟨false, 0, 0⟩, ⟨false, 0, 0⟩, ⟨false, 0, 0⟩, ⟨false, 0, 0⟩, ⟨false, 0, 0⟩, ⟨false, 0, 0⟩, ⟨false, 0, 0⟩, ⟨true, 0, 0⟩, ⟨false, 0, 0⟩, ⟨false, 0, 0⟩] mixed (by kernel_rfl) ?_
    simp only [go_sem, seval, reduceCtorEq, bne_self_eq_false, beq_self_eq_true, List.length_cons, List.length_nil, hz]
    refine callD_pure (gvalid_ok (gl := gl) har c hs) rfl ?_ ?_ ?_ <;> simp only [go_sem, seval, reduceCtorEq, bne_self_eq_false, beq_self_eq_true, List.length_cons, List.length_nil, hz, encC_eq, ctCells]
    refine callD_pure (rvalid_ok (gl := gl) c hs) rfl ?_ ?_ ?_ <;> simp only [go_sem, seval, reduceCtorEq, bne_self_eq_false, beq_self_eq_true, List.length_cons, List.length_nil, hz, encC_eq, ctCells, rvalC_eq]
    refine callD_pure (hsm) rfl ?_ ?_ ?_ <;> simp only [go_sem, seval, reduceCtorEq, bne_self_eq_false, beq_self_eq_true, List.length_cons, List.length_nil, hz, encF_eq]
    refine callD_pure (hk) rfl ?_ ?_ ?_ <;> simp only [go_sem, seval, reduceCtorEq, bne_self_eq_false, beq_self_eq_true, List.length_cons, List.length_nil, hz]
    try simp only [go_sem, seval, reduceCtorEq, bne_self_eq_false, beq_self_eq_true, List.length_cons, List.length_nil, hz]
    repeat (first | refine WK.blockSeq ?_ | refine WK.blockCond ?_ | refine WK.blockReg ?_ | (refine WK.condT ?_ ?_; (focus (simp only [go_sem, seval, reduceCtorEq, bne_self_eq_false, beq_self_eq_true, List.length_cons, List.length_nil, hz]; done))) | (refine WK.condF ?_ ?_; (focus (simp only [go_sem, seval, reduceCtorEq, bne_self_eq_false, beq_self_eq_true, List.length_cons, List.length_nil, hz]; done))) | refine WK.seq ?_ | ((first | refine WK.reg ?_ | refine WK.skip ?_ | refine WK.ret ?_ | refine WK.exit ?_); simp only [go_sem, seval, reduceCtorEq, bne_self_eq_false, beq_self_eq_true, List.length_cons, List.length_nil, hz]) | ((with_reducible refine And.intro ?_ ?_); omega) | omega)
    refine Cut.by' (by first | exact Nat.le_refl _ | (simp only [Sto.get_add, Sto.get_set, Sto.get_del, Sto.get_none, Sto.next_add, Sto.next_set, Sto.next_del, Sto.next_none]; omega)) (by first | exact Nat.le_refl _ | (simp only [Sto.get_add, Sto.get_set, Sto.get_del, Sto.get_none, Sto.next_add, Sto.next_set, Sto.next_del, Sto.next_none]; omega)) (fun i hi => ?_) (fun i o hi ho => ?_)
    · (try simp only [Sto.get_add, Sto.get_set, Sto.get_del, Sto.get_none, Sto.next_add, Sto.next_set, Sto.next_del, Sto.next_none] at hi ⊢); ((repeat' split) <;> first | exact .inl rfl | exact .inr rfl | omega | (simp_all; done))
    · (try simp only [Sto.get_add, Sto.get_set, Sto.get_del, Sto.get_none, Sto.next_add, Sto.next_set, Sto.next_del, Sto.next_none] at hi ho ⊢); ((repeat' split at ho) <;> (repeat' split) <;> first | (exact ⟨ho, .inl ho⟩) | (cases ho; done) | omega | (cases ho; refine ⟨rfl, .inl rfl⟩) | (cases ho; refine ⟨rfl, .inr ?_⟩; simp only [go_sem, seval, reduceCtorEq, bne_self_eq_false, beq_self_eq_true, List.length_cons, List.length_nil, hz]; first | done | omega | (refine ⟨?_, ?_⟩ <;> omega)) | (simp_all; done))
end
end Go.Sx
