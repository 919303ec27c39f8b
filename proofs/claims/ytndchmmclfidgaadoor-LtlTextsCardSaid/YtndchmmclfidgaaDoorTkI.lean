import Derived.Test.YtndchmmclfidgaaDoorTkH
set_option maxRecDepth 100000
set_option linter.unusedSimpArgs false
set_option linter.unusedVariables false
set_option linter.unnecessarySimpa false
namespace Go.Sx
open Go Go.Lg Go.Proofs
theorem b36 {gl : GL} : Body (C gl).P 36 Tryd.f36 (codeOf Tryd.f36) := ⟨Tryd.func36, by kernel_rfl, by kernel_rfl⟩

/-! ## The example of the law -/
def nsA : List Bs := [[114], [103]]
def nsB : List Bs := [[112], [113]]
def txA : Bs := [40, 71, 32, 40, 114, 32, 45, 62, 32, 88, 32, 103, 41, 41, 32, 38, 32, 40, 40, 70, 32, 33, 114, 41, 32, 85, 32, 103, 41]
def txB : Bs := [112, 32, 87, 32, 113]
def fmA : Fm := .mk 4 0 [.mk 10 0 [.mk 6 0 [.mk 2 0 [], .mk 8 0 [.mk 2 1 []]]], .mk 11 0 [.mk 9 0 [.mk 3 0 [.mk 2 0 []]], .mk 2 1 []]]
def fmB : Fm := .mk 13 0 [.mk 2 0 [], .mk 2 1 []]
def fmC : Fm := .mk 11 0 [.mk 4 0 [.mk 2 0 [], .mk 3 0 [.mk 2 1 []]], .mk 4 0 [.mk 3 0 [.mk 2 0 []], .mk 3 0 [.mk 2 1 []]]]
def txC : Bs := [71, 32, 40, 114, 32, 45, 62, 32, 88, 32, 103, 41, 32, 38, 32, 70, 32, 33, 114, 32, 85, 32, 103]
def txD : Bs := [40, 112, 32, 38, 32, 33, 113, 41, 32, 85, 32, 40, 33, 112, 32, 38, 32, 33, 113, 41]
theorem ex1 : namedS nsA = 0 := by kernel_rfl
theorem ex2 : namedS nsB = 0 := by kernel_rfl
theorem ex3 : parF nsA 100 (.bin 1) (toksS txA) = some (fmA, []) := by kernel_rfl
theorem ex4 : parF nsB 100 (.bin 1) (toksS txB) = some (fmB, []) := by kernel_rfl
theorem ex5 : parA fmA [] = (fmA, 0) := by kernel_rfl
theorem ex6 : parA fmB [] = (fmB, 0) := by kernel_rfl
theorem ex7 : printS nsA fmA = (txC, 0) := by kernel_rfl
theorem ex8 : nnfS false fmB = (fmC, 0) := by kernel_rfl
theorem ex9 : printS nsB fmC = (txD, 0) := by kernel_rfl
section
variable {gl : GL}
theorem awake2_ok (hsg : gl.at' 3 = signsA) (har : gl.at' 0 = arityA) (hst : gl.at' 1 = strengthA) (hri : gl.at' 2 = rightA) : PCall (C gl) 36 [] (.bool true) := by
  have p1 := parse_ok hsg har hst hri nsA txA 100 fmA [] (by decide) (by decide) ex1 (by decide) ex3
  have p2 := parse_ok hsg har hst hri nsB txB 100 fmB [] (by decide) (by decide) ex2 (by decide) ex4
  have p3 := print_ok hsg har hst hri nsA fmA (by simp [fmA, Shrt, ShrtL]) (by decide) (by decide) (fun _ _ => by decide)
  have p4 := print_ok hsg har hst hri nsB fmC (by simp [fmC, Shrt, ShrtL]) (by decide) (by decide) (fun _ _ => by decide)
  have p5 := negate_ok har fmB (by simp [fmB, Shrt, ShrtL])
  rw [ex5] at p1
  rw [ex6] at p2
  rw [ex7] at p3
  rw [ex9] at p4
  rw [ex8] at p5
  refine pcallX (callX_of b36 (by simp [Tryd.ntmps36]) ?_) trivial (.bool _)
  refine W.of ?_
  rw [Tryd.ntmps36]
  simp only [toK, codeOf, Tryd.f36, go_sem, seval, reduceCtorEq]
  rw [show ([71, 32, 40, 114, 32, 45, 62, 32, 88, 32, 103, 41, 32, 38, 32, 70, 32, 33, 114, 32, 85, 32, 103] : Bs) = txC from rfl, show ([40, 112, 32, 38, 32, 33, 113, 41, 32, 85, 32, 40, 33, 112, 32, 38, 32, 33, 113, 41] : Bs) = txD from rfl]
  try simp only [go_sem, seval, reduceCtorEq]
  repeat (first | refine WK.blockSeq ?_ | refine WK.blockCond ?_ | refine WK.blockReg ?_ | (refine WK.condT ?_ ?_; (focus (simp only [go_sem, seval, reduceCtorEq]; done))) | (refine WK.condF ?_ ?_; (focus (simp only [go_sem, seval, reduceCtorEq]; done))) | refine WK.seq ?_ | ((first | refine WK.reg ?_ | refine WK.skip ?_ | refine WK.ret ?_ | refine WK.exit ?_); simp only [go_sem, seval, reduceCtorEq]) | ((with_reducible refine And.intro ?_ ?_); omega) | omega)
  refine callK_pureL (p1) rfl ?_ ?_ ?_ <;> simp only [go_sem, seval, reduceCtorEq, encF_eq]
  · exact ⟨AV.le_list' _, .refl _⟩
  try simp only [go_sem, seval, reduceCtorEq]
  repeat (first | refine WK.blockSeq ?_ | refine WK.blockCond ?_ | refine WK.blockReg ?_ | (refine WK.condT ?_ ?_; (focus (simp only [go_sem, seval, reduceCtorEq]; done))) | (refine WK.condF ?_ ?_; (focus (simp only [go_sem, seval, reduceCtorEq]; done))) | refine WK.seq ?_ | ((first | refine WK.reg ?_ | refine WK.skip ?_ | refine WK.ret ?_ | refine WK.exit ?_); simp only [go_sem, seval, reduceCtorEq]) | ((with_reducible refine And.intro ?_ ?_); omega) | omega)
  refine callK_pureL (p3) rfl ?_ ?_ ?_ <;> simp only [go_sem, seval, reduceCtorEq, encF_eq]
  · exact AV.le_list' _
  try simp only [go_sem, seval, reduceCtorEq]
  repeat (first | refine WK.blockSeq ?_ | refine WK.blockCond ?_ | refine WK.blockReg ?_ | (refine WK.condT ?_ ?_; (focus (simp only [go_sem, seval, reduceCtorEq]; done))) | (refine WK.condF ?_ ?_; (focus (simp only [go_sem, seval, reduceCtorEq]; done))) | refine WK.seq ?_ | ((first | refine WK.reg ?_ | refine WK.skip ?_ | refine WK.ret ?_ | refine WK.exit ?_); simp only [go_sem, seval, reduceCtorEq]) | ((with_reducible refine And.intro ?_ ?_); omega) | omega)
  refine callK_pureL (p2) rfl ?_ ?_ ?_ <;> simp only [go_sem, seval, reduceCtorEq, encF_eq]
  · exact ⟨AV.le_list' _, .refl _⟩
  try simp only [go_sem, seval, reduceCtorEq]
  repeat (first | refine WK.blockSeq ?_ | refine WK.blockCond ?_ | refine WK.blockReg ?_ | (refine WK.condT ?_ ?_; (focus (simp only [go_sem, seval, reduceCtorEq]; done))) | (refine WK.condF ?_ ?_; (focus (simp only [go_sem, seval, reduceCtorEq]; done))) | refine WK.seq ?_ | ((first | refine WK.reg ?_ | refine WK.skip ?_ | refine WK.ret ?_ | refine WK.exit ?_); simp only [go_sem, seval, reduceCtorEq]) | ((with_reducible refine And.intro ?_ ?_); omega) | omega)
  refine callK_pureL (p5) rfl ?_ ?_ ?_ <;> simp only [go_sem, seval, reduceCtorEq, encF_eq]
  try simp only [go_sem, seval, reduceCtorEq]
  repeat (first | refine WK.blockSeq ?_ | refine WK.blockCond ?_ | refine WK.blockReg ?_ | (refine WK.condT ?_ ?_; (focus (simp only [go_sem, seval, reduceCtorEq]; done))) | (refine WK.condF ?_ ?_; (focus (simp only [go_sem, seval, reduceCtorEq]; done))) | refine WK.seq ?_ | ((first | refine WK.reg ?_ | refine WK.skip ?_ | refine WK.ret ?_ | refine WK.exit ?_); simp only [go_sem, seval, reduceCtorEq]) | ((with_reducible refine And.intro ?_ ?_); omega) | omega)
  refine callK_pureL (p4) rfl ?_ ?_ ?_ <;> simp only [go_sem, seval, reduceCtorEq, encF_eq]
  · exact AV.le_list' _
  try simp only [go_sem, seval, reduceCtorEq]
  repeat (first | refine WK.blockSeq ?_ | refine WK.blockCond ?_ | refine WK.blockReg ?_ | (refine WK.condT ?_ ?_; (focus (simp only [go_sem, seval, reduceCtorEq]; done))) | (refine WK.condF ?_ ?_; (focus (simp only [go_sem, seval, reduceCtorEq]; done))) | refine WK.seq ?_ | ((first | refine WK.reg ?_ | refine WK.skip ?_ | refine WK.ret ?_ | refine WK.exit ?_); simp only [go_sem, seval, reduceCtorEq]) | ((with_reducible refine And.intro ?_ ?_); omega) | omega)
  trace_state
  exact cut_none _
end
end Go.Sx
