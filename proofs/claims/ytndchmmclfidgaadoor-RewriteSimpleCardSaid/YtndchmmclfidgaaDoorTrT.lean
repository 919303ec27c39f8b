import Derived.Test.YtndchmmclfidgaaDoorTrS
import Derived.Test.YtndchmmclfidgaaDoorTrP
import Derived.Test.YtndchmmclfidgaaDoorTrL
import Derived.Test.YtndchmmclfidgaaDoorLgAv
set_option maxRecDepth 100000
set_option maxHeartbeats 4000000
set_option linter.unusedSimpArgs false
set_option linter.unusedVariables false
set_option linter.unnecessarySimpa false
namespace Go.Sx
open Go Go.Lg Go.Proofs
theorem b13 {gl : GL} : Body (C gl).P 13 Tryd.f13 (codeOf Tryd.f13) := ⟨Tryd.func13, by kernel_rfl, by kernel_rfl⟩
section
variable {gl : GL}
theorem nodes100_le {f g : Fm} (h : nN g ≤ nN f) : decide (nodesR 100 g > nodesR 100 f) = false := by
  rw [nodesR_min g 100 (by omega), nodesR_min f 100 (by omega)]
  unfold nN at h
  exact decide_eq_false (by omega)
theorem rewritesimple_ok (hsg : gl.at' 3 = signsA) (har : gl.at' 0 = arityA) (hst : gl.at' 1 = strengthA) (hri : gl.at' 2 = rightA) (f : Fm) (hs : Shrt f) :
    PCall (C gl) 13 [encF f] (.bool true) := by
  have haw : Ctr (C gl) 60 [] True (.bool true) := ⟨fun _ => awake4_ok hsg har hst hri⟩
  have hfew : ∀ f : Fm, Ctr (C gl) 26 [encF f, .int .i64 100] (Shrt f) (.bool (decide (nodesR 100 f ≤ 100))) := fun f => ⟨fun h => fewR_ok f h 100 (by omega) (by omega)⟩
  have hnod : ∀ f : Fm, Ctr (C gl) 64 [encF f, .int .i64 100] (Shrt f) (.int .i64 (nodesR 100 f)) := fun f => ⟨fun h => nodesR_ok f h 100 (by omega) (by omega)⟩
  have hsi : ∀ f : Fm, Ctr (C gl) 61 [encF f] (Shrt f) (.tup [encF (simS f).1, .int .i64 (simS f).2]) := fun f => ⟨wSimple_ok har f⟩
  have hsa : ∀ a : Fm, Ctr (C gl) 32 [encF a, encF a] (Shrt a) (.bool true) := fun a => ⟨fun h => by
    have := sameR_ok (gl := gl) a h a
    rw [sameF_self] at this
    exact this⟩
  refine pcallX (callX_of b13 (by simp [Tryd.ntmps13]) ?_) (by simp only [AllCl, cl_encF, and_true]) (.bool _)
  refine W.of ?_
  rw [Tryd.ntmps13]
  simp only [toK, codeOf, Tryd.f13, go_sem, seval, reduceCtorEq]
  cases k1 : decide (nodesR 100 f ≤ 100) with
  | false =>
    have H := And.intro @k1 @hs
    refine autoA ?_
    repeat' (first | (refine WK.draw (ops := #[_, _, _, _, _, _, _, _, _, _, _, _, _, _, _, _, _, _, _, _, _, _, _, _, _, _, _, _, _]) [dq 0 0, dq 0 0, dq 0 0, dq 0 0, dm, dq 0 0, dq 0 0, dq 0 0, dq 0 0, dm, dq 0 0, dq 0 0, dq 0 0, dq 0 0, dm, dq 1 0, dm, dq 0 0, dq 0 0, dq 0 0, dq 0 0, dq 0 0, dq 0 0, dq 0 0, dq 0 0, dq 0 0, dm, dq 0 0, dq 0 0] mixed (by kernel_rfl) ?_; refine autoA ?_))
    try exact trivial
    exact cut_none _
  | true =>
  cases hv : validF f 6 with
  | false =>
    have e1 : simS f = (fz, 1) := by unfold simS; rw [hv]; rfl
    have H := And.intro @k1 (And.intro @hs (And.intro @e1 @hv))
    refine autoA ?_
    repeat' (first | (refine WK.draw (ops := #[_, _, _, _, _, _, _, _, _, _, _, _, _, _, _, _, _, _, _, _, _, _, _, _, _, _, _, _, _]) [dq 0 0, dq 0 0, dq 0 0, dq 0 0, dm, dq 0 0, dq 0 0, dq 0 0, dq 0 0, dm, dq 0 0, dq 0 0, dq 0 0, dq 0 0, dm, dq 1 0, dm, dq 0 0, dq 0 0, dq 0 0, dq 0 0, dq 0 0, dq 0 0, dq 0 0, dq 0 0, dq 0 0, dm, dq 0 0, dq 0 0] mixed (by kernel_rfl) ?_; refine autoA ?_))
    try exact trivial
    exact cut_none _
  | true =>
    have hA := (valid_both hv).2
    have e1 : simS f = (simF f, 0) := by unfold simS; rw [if_pos hv]
    have hv2 := sim_valid hv
    have e2 : simS (simF f) = (simF f, 0) := by unfold simS; rw [if_pos hv2, sim_again hA]
    obtain ⟨q1, q2, q3⟩ := simF_spec _ f (Nat.le_refl _) hA
    have q4 := shrt_of_shor _ (shor_okA _ q1)
    have q5 := sim_plain hA
    have q6 := nodes100_le q3
    cases kb : ((bitsB f).toInt == 0) with
    | false =>
      have H := And.intro @k1 (And.intro @hs (And.intro @e1 (And.intro @e2 (And.intro @hv (And.intro @hv2 (And.intro @q1 (And.intro @q4 (And.intro @q5 (And.intro @q6 (And.intro @hA @kb))))))))))
      refine autoA ?_
      repeat' (first | (refine WK.draw (ops := #[_, _, _, _, _, _, _, _, _, _, _, _, _, _, _, _, _, _, _, _, _, _, _, _, _, _, _, _, _]) [dq 0 0, dq 0 0, dq 0 0, dq 0 0, dm, dq 0 0, dq 0 0, dq 0 0, dq 0 0, dm, dq 0 0, dq 0 0, dq 0 0, dq 0 0, dm, dq 1 0, dm, dq 0 0, dq 0 0, dq 0 0, dq 0 0, dq 0 0, dq 0 0, dq 0 0, dq 0 0, dq 0 0, dm, dq 0 0, dq 0 0] mixed (by kernel_rfl) ?_; refine autoA ?_))
      try exact trivial
      exact cut_none _
    | true =>
      have hn := bits_noV f hA (bv_zero kb)
      have ho := sim_op hA hn
      cases kc : cv f with
      | true =>
        rw [kc, if_pos rfl] at ho
        replace ho : ((simF f).op == 0) = true := by rw [ho]; rfl
        have H := And.intro @k1 (And.intro @hs (And.intro @e1 (And.intro @e2 (And.intro @hv (And.intro @hv2 (And.intro @q1 (And.intro @q4 (And.intro @q5 (And.intro @q6 (And.intro @hA (And.intro @kb (And.intro @hn (And.intro @kc @ho)))))))))))))
        refine autoA ?_
        repeat' (first | (refine WK.draw (ops := #[_, _, _, _, _, _, _, _, _, _, _, _, _, _, _, _, _, _, _, _, _, _, _, _, _, _, _, _, _]) [dq 0 0, dq 0 0, dq 0 0, dq 0 0, dm, dq 0 0, dq 0 0, dq 0 0, dq 0 0, dm, dq 0 0, dq 0 0, dq 0 0, dq 0 0, dm, dq 1 0, dm, dq 0 0, dq 0 0, dq 0 0, dq 0 0, dq 0 0, dq 0 0, dq 0 0, dq 0 0, dq 0 0, dm, dq 0 0, dq 0 0] mixed (by kernel_rfl) ?_; refine autoA ?_))
        try exact trivial
        exact cut_none _
      | false =>
        rw [kc, if_neg Bool.false_ne_true] at ho
        replace ho : ((simF f).op == 1) = true := by rw [ho]; rfl
        have H := And.intro @k1 (And.intro @hs (And.intro @e1 (And.intro @e2 (And.intro @hv (And.intro @hv2 (And.intro @q1 (And.intro @q4 (And.intro @q5 (And.intro @q6 (And.intro @hA (And.intro @kb (And.intro @hn (And.intro @kc @ho)))))))))))))
        refine autoA ?_
        repeat' (first | (refine WK.draw (ops := #[_, _, _, _, _, _, _, _, _, _, _, _, _, _, _, _, _, _, _, _, _, _, _, _, _, _, _, _, _]) [dq 0 0, dq 0 0, dq 0 0, dq 0 0, dm, dq 0 0, dq 0 0, dq 0 0, dq 0 0, dm, dq 0 0, dq 0 0, dq 0 0, dq 0 0, dm, dq 1 0, dm, dq 0 0, dq 0 0, dq 0 0, dq 0 0, dq 0 0, dq 0 0, dq 0 0, dq 0 0, dq 0 0, dm, dq 0 0, dq 0 0] mixed (by kernel_rfl) ?_; refine autoA ?_))
        try exact trivial
        exact cut_none _
end
end Go.Sx
