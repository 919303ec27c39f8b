import Derived.Test.YtndchmmclfidgaaDoorTkP
import Derived.Test.YtndchmmclfidgaaDoorTkJ
import Derived.Test.YtndchmmclfidgaaDoorLgAv
set_option maxRecDepth 100000
set_option maxHeartbeats 4000000
set_option linter.unusedSimpArgs false
set_option linter.unusedVariables false
set_option linter.unnecessarySimpa false
namespace Go.Sx
open Go Go.Lg Go.Proofs
theorem b11 {gl : GL} : Body (C gl).P 11 Tryd.f11 (codeOf Tryd.f11) := ⟨Tryd.func11, by kernel_rfl, by kernel_rfl⟩
section
variable {gl : GL}
theorem shrt_fz : Shrt fz := by simp [fz, Shrt, ShrtL]
theorem shrt_nnf (yes : Bool) (f : Fm) : Shrt (nnfS yes f).1 := by
  by_cases he : (nnfS yes f).2 = 0
  · obtain ⟨n1, n2, n3⟩ := nnf_again yes f he
    exact shrt_of_shor _ (shorF_of _ (by omega))
  · unfold nnfS at he ⊢
    by_cases h1 : validF f 6 = true
    · rw [if_pos h1] at he ⊢
      by_cases h2 : (if yes = true then (cntF f).1 else (cntF f).2) > 60
      · rw [if_pos h2]; exact shrt_fz
      · rw [if_neg h2] at he; exact absurd rfl he
    · rw [if_neg h1]; exact shrt_fz
theorem shrt_putA (f : Fm) (i : Int) (b : Fm) : Shrt (putA f i b).1 := by
  unfold putA
  split
  · exact shrt_fz
  · split
    · exact shrt_fz
    · split
      · rename_i h; exact shrt_of_shor _ (valid_both h).1
      · exact shrt_fz
theorem is_ok (a b : Fm) (e f : Int) (ha : Shrt a) : PCall (C gl) 41 [encF a, .int .i64 e, encF b, .int .i64 f] (.bool (e == f && sameF a b)) := by
  refine pcallX (callX_of b41 (by simp [Tryd.ntmps41]) ?_) (by simp only [AllCl, cl_encF, cl_int, and_true]) (.bool _)
  have hs : Ctr (C gl) 32 [encF a, encF b] True (.bool (sameF a b)) := ⟨fun _ => sameR_ok a ha b⟩
  refine W.of ?_
  rw [Tryd.ntmps41]
  simp only [toK, codeOf, Tryd.f41, go_sem, seval, reduceCtorEq]
  cases he : (e == f) with
  | false =>
    have H := @he
    refine autoA ?_
    try exact trivial
    exact cut_none _
  | true =>
    have H := @he
    refine autoA ?_
    try exact trivial
    exact cut_none _
instance is_i (a : Fm) (e : Int) : Ctr (C gl) 41 [encF a, .int .i64 e, encF a, .int .i64 e] (Shrt a) (.bool true) := ⟨fun h => by
  have := is_ok (gl := gl) a a e e h
  rw [sameF_self, Bool.and_true, beq_self_eq_true] at this
  exact this⟩
theorem ltlnormal_ok (hsg : gl.at' 3 = signsA) (har : gl.at' 0 = arityA) (hst : gl.at' 1 = strengthA) (hri : gl.at' 2 = rightA) (f b : Fm) (i : Int) (hs : Shrt f) (hsb : Shrt b) :
    PCall (C gl) 11 [encF f, encF b, .int .i64 i] (.bool true) := by
  have haw : Ctr (C gl) 36 [] True (.bool true) := ⟨fun _ => awake2_ok hsg har hst hri⟩
  have hfew : ∀ f : Fm, Ctr (C gl) 26 [encF f, .int .i64 300] (Shrt f) (.bool (decide (nodesR 300 f ≤ 300))) := fun f => ⟨fun h => fewR_ok f h 300 (by omega) (by omega)⟩
  have h1 : ∀ f, Ctr (C gl) 42 [encF f] (Shrt f) (.tup [encF (nnfS true f).1, .int .i64 (nnfS true f).2]) := fun f => ⟨nnf_ok har f⟩
  have h2 : ∀ f, Ctr (C gl) 43 [encF f] (Shrt f) (.tup [encF (nnfS false f).1, .int .i64 (nnfS false f).2]) := fun f => ⟨negate_ok har f⟩
  have h3 : ∀ f, Ctr (C gl) 45 [encF f] (Shrt f) (.tup [encF (nnfS true f).1, .int .i64 (nnfS true f).2]) := fun f => ⟨nnfR_ok f⟩
  have h4 : ∀ f, Ctr (C gl) 46 [encF f] (Shrt f) (.tup [encF (nnfS false f).1, .int .i64 (nnfS false f).2]) := fun f => ⟨negateR_ok f⟩
  have h5 : ∀ f i b, Ctr (C gl) 47 [encF f, .int .i64 i, encF b] (Shrt f ∧ Shrt b) (.tup [encF (putA f i b).1, .int .i64 (putA f i b).2]) := fun f i b => ⟨fun h => putL_ok har f i b h.1 h.2⟩
  have h6 : ∀ f i b, Ctr (C gl) 48 [encF f, .int .i64 i, encF b] (Shrt f ∧ Shrt b) (.tup [encF (putA f i b).1, .int .i64 (putA f i b).2]) := fun f i b => ⟨fun h => putR2_ok f i b h.1 h.2⟩
  have q1 := shrt_nnf true f
  have q2 := shrt_nnf false f
  have q3 := shrt_putA f i b
  refine pcallX (callX_of b11 (by simp [Tryd.ntmps11]) ?_) (by simp only [AllCl, cl_encF, cl_int, and_true]) (.bool _)
  refine W.of ?_
  rw [Tryd.ntmps11]
  simp only [toK, codeOf, Tryd.f11, go_sem, seval, reduceCtorEq]
  cases k1 : decide (nodesR 300 f ≤ 300) with
  | false =>
    have H := @k1
    refine autoA ?_
    try exact trivial
    exact cut_none _
  | true =>
  cases k2 : decide (nodesR 300 b ≤ 300) with
  | false =>
    have H := And.intro @k1 @k2
    refine autoA ?_
    try exact trivial
    exact cut_none _
  | true =>
    have H := And.intro @k1 @k2
    refine autoA ?_
    try exact trivial
    exact cut_none _
end
end Go.Sx
