import Derived.Test.YtndchmmclfidgaaDoorTkP
import Derived.Test.YtndchmmclfidgaaDoorTkJ
import Derived.Test.YtndchmmclfidgaaDoorLgAv
set_option maxRecDepth 100000
set_option maxHeartbeats 4000000
set_option linter.unusedSimpArgs false
set_option linter.unusedVariables false
set_option linter.unnecessarySimpa false
namespace Go.Sx
open Go Go.Lg Go.Proofs
section
variable {gl : GL}
theorem is_ok (a b : Fm) (e f : Int) (ha : Shrt a) : PCall (C gl) 41 [encF a, .int .i64 e, encF b, .int .i64 f] (.bool (e == f && sameF a b)) := by
  refine pcallX (callX_of b41 (by simp [Tryd.ntmps41]) ?_) (by simp only [AllCl, cl_encF, cl_int, and_true]) (.bool _)
  have hs : Ctr (C gl) 32 [encF a, encF b] True (.bool (sameF a b)) := ⟨fun _ => sameR_ok a ha b⟩
  refine W.of ?_
  rw [Tryd.ntmps41]
  simp only [toK, codeOf, Tryd.f41, go_sem, seval, reduceCtorEq]
  cases he : (e == f) with
  | false =>
    have H := @he
    refine autoA ?_
    try exact trivial
    exact cut_none _
  | true =>
    have H := @he
    refine autoA ?_
    try exact trivial
    exact cut_none _
instance is_i (a : Fm) (e : Int) : Ctr (C gl) 41 [encF a, .int .i64 e, encF a, .int .i64 e] (Shrt a) (.bool true) := ⟨fun h => by
  have := is_ok (gl := gl) a a e e h
  rw [sameF_self, Bool.and_true, beq_self_eq_true] at this
  exact this⟩
end
end Go.Sx
