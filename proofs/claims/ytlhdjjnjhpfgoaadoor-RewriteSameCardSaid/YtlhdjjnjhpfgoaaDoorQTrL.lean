import Derived.Test.YtlhdjjnjhpfgoaaDoorQTrK
import Derived.Test.YtlhdjjnjhpfgoaaDoorQTkI
import Derived.Test.YtlhdjjnjhpfgoaaDoorLgAv
set_option maxRecDepth 100000
set_option maxHeartbeats 4000000
set_option linter.unusedSimpArgs false
set_option linter.unusedVariables false
set_option linter.unnecessarySimpa false
namespace Go.Sx
open Go Go.Lg Go.Proofs
theorem b18 {gl : GL} : Body (C gl).P 18 Tryd.f18 (codeOf Tryd.f18) := ⟨Tryd.func18, by kernel_rfl, by kernel_rfl⟩
theorem b6 {gl : GL} : Body (C gl).P 6 Tryd.f6 (codeOf Tryd.f6) := ⟨Tryd.func6, by kernel_rfl, by kernel_rfl⟩
/-! ## The example of the law -/
def ty1 : Bs := [71, 32, 116, 114, 117, 101, 32, 38, 32, 33, 33, 112]
def ty2 : Bs := [112, 32, 87, 32, 113]
def ty3 : Bs := [112, 32, 38, 32, 71, 32, 40, 113, 32, 38, 32, 88, 32, 40, 112, 32, 38, 32, 113, 41, 41]
def ty4 : Bs := [33, 40, 33, 113, 32, 85, 32, 40, 33, 112, 32, 38, 32, 33, 113, 41, 41]
def ty5 : Bs := [71, 32, 88, 32, 112]
def vp : Fm := .mk 2 0 []
def vq : Fm := .mk 2 1 []
def fy1 : Fm := .mk 4 0 [.mk 10 0 [.mk 0 0 []], .mk 3 0 [.mk 3 0 [vp]]]
def fy2 : Fm := .mk 13 0 [vp, vq]
def fy3 : Fm := .mk 4 0 [vp, .mk 10 0 [.mk 4 0 [vq, .mk 8 0 [.mk 4 0 [vp, vq]]]]]
def fy4 : Fm := fno (fup (fno vq) (fand (fno vp) (fno vq)))
def fy5 : Fm := .mk 10 0 [.mk 8 0 [vp]]
def fy6 : Fm := .mk 10 0 [.mk 8 0 [vq]]
def fy7 : Fm := .mk 10 0 [vq]
theorem ey1 : parF nsB 100 (.bin 1) (toksS ty1) = some (fy1, []) := by kernel_rfl
theorem ey2 : parF nsB 100 (.bin 1) (toksS ty2) = some (fy2, []) := by kernel_rfl
theorem ey3 : parF nsB 100 (.bin 1) (toksS ty3) = some (fy3, []) := by kernel_rfl
theorem ey4 : parF nsB 100 (.bin 1) (toksS ty4) = some (fy4, []) := by kernel_rfl
theorem ey5 : parF nsB 100 (.bin 1) (toksS ty5) = some (fy5, []) := by kernel_rfl
theorem ez1 : parA fy1 [] = (fy1, 0) := by kernel_rfl
theorem ez2 : parA fy2 [] = (fy2, 0) := by kernel_rfl
theorem ez3 : parA fy3 [] = (fy3, 0) := by kernel_rfl
theorem ez4 : parA fy4 [] = (fy4, 0) := by kernel_rfl
theorem ez5 : parA fy5 [] = (fy5, 0) := by kernel_rfl
theorem ew1 : simS fy1 = (vp, 0) := by kernel_rfl
theorem ew2 : untS fy2 = (fy4, 0) := by kernel_rfl
theorem ew3 : prtS fy3 = ([vp, fy7, fy5, fy6], 0) := by kernel_rfl
section
variable {gl : GL}
theorem read_ok (hsg : gl.at' 3 = signsA) (har : gl.at' 0 = arityA) (hst : gl.at' 1 = strengthA) (hri : gl.at' 2 = rightA) (text : Bs) (f : Fm) (hl : text.length ≤ 16384) (hp : parF nsB 100 (.bin 1) (toksS text) = some (f, [])) (ha : parA f [] = (f, 0)) :
    PCall (C gl) 18 [.str (tx text)] (encF f) := by
  have p := parse_ok hsg har hst hri nsB text 100 f [] (by decide) (by decide) ex2 hl hp
  rw [ha] at p
  have hpa : Ctr (C gl) 36 [.list false [.str (tx [112]), .str (tx [113])], .str (tx text)] True (.tup [encF f, .int .i64 0]) := ⟨fun _ => p⟩
  refine pcallX (callX_of b18 (by simp [Tryd.ntmps18]) ?_) (by simp only [AllCl, cl_str, and_true]) (by simp only [cl_encF])
  refine W.of ?_
  rw [Tryd.ntmps18]
  simp only [toK, codeOf, Tryd.f18, go_sem, seval, reduceCtorEq]
  have H := trivial
  refine autoA ?_
  try exact trivial
  first | exact cut_none _ | exact finA
theorem awake4_ok (hsg : gl.at' 3 = signsA) (har : gl.at' 0 = arityA) (hst : gl.at' 1 = strengthA) (hri : gl.at' 2 = rightA) : PCall (C gl) 6 [] (.bool true) := by
  have r1 : Ctr (C gl) 18 [.str (tx [71, 32, 116, 114, 117, 101, 32, 38, 32, 33, 33, 112])] True (encF fy1) := ⟨fun _ => read_ok hsg har hst hri ty1 fy1 (by decide) ey1 ez1⟩
  have r2 : Ctr (C gl) 18 [.str (tx [112, 32, 87, 32, 113])] True (encF fy2) := ⟨fun _ => read_ok hsg har hst hri ty2 fy2 (by decide) ey2 ez2⟩
  have r3 : Ctr (C gl) 18 [.str (tx [112, 32, 38, 32, 71, 32, 40, 113, 32, 38, 32, 88, 32, 40, 112, 32, 38, 32, 113, 41, 41])] True (encF fy3) := ⟨fun _ => read_ok hsg har hst hri ty3 fy3 (by decide) ey3 ez3⟩
  have r4 : Ctr (C gl) 18 [.str (tx [33, 40, 33, 113, 32, 85, 32, 40, 33, 112, 32, 38, 32, 33, 113, 41, 41])] True (encF fy4) := ⟨fun _ => read_ok hsg har hst hri ty4 fy4 (by decide) ey4 ez4⟩
  have r5 : Ctr (C gl) 18 [.str (tx [71, 32, 88, 32, 112])] True (encF fy5) := ⟨fun _ => read_ok hsg har hst hri ty5 fy5 (by decide) ey5 ez5⟩
  have s1 := wSimple_ok har fy1 (by simp [fy1, vp, Shrt, ShrtL])
  have s2 := wUntil_ok har fy2 (by simp [fy2, vp, vq, Shrt, ShrtL])
  have s3 := wParts_ok har fy3 (by simp [fy3, vp, vq, Shrt, ShrtL])
  rw [ew1] at s1
  rw [ew2] at s2
  rw [ew3] at s3
  have c1 : Ctr (C gl) 13 [encF fy1] True (.tup [encF (.mk 2 0 []), .int .i64 0]) := ⟨fun _ => s1⟩
  have c2 : Ctr (C gl) 14 [encF fy2] True (.tup [encF fy4, .int .i64 0]) := ⟨fun _ => s2⟩
  have c3 : Ctr (C gl) 16 [encF fy3] True (.tup [.list false [encF vp, encF fy7, encF fy5, encF fy6], .int .i64 0]) := ⟨fun _ => s3⟩
  have hsa : ∀ a : Fm, Ctr (C gl) 19 [encF a, encF a] (Shrt a) (.bool true) := fun a => ⟨fun h => by
    have := sameR_ok (gl := gl) a h a
    rw [sameF_self] at this
    exact this⟩
  have q1 : Shrt (.mk 2 0 []) := by simp [Shrt, ShrtL]
  have q4 : Shrt fy4 := by simp [fy4, fno, fup, fand, vp, vq, Shrt, ShrtL]
  have q5 : Shrt fy5 := by simp [fy5, vp, Shrt, ShrtL]
  refine pcallX (callX_of b6 (by simp [Tryd.ntmps6]) ?_) trivial (.bool _)
  refine W.of ?_
  rw [Tryd.ntmps6]
  simp only [toK, codeOf, Tryd.f6, go_sem, seval, reduceCtorEq]
  have H := And.intro @q1 (And.intro @q4 @q5)
  refine autoA ?_
  repeat' (first | (refine WK.draw (ops := #[_, _, _, _, _, _, _, _, _, _, _, _, _, _, _, _, _, _, _, _, _, _, _, _, _, _, _, _, _, _, _, _, _]) [dq 0 0, dq 0 0, dq 0 0, dq 0 0, dq 0 0, dm, dq 0 0, dq 0 0, dq 0 0, dq 0 0, dq 0 0, dq 0 0, dq 0 1, dm, dm, dq 0 0, dq 0 0, dq 0 0, dq 0 0, dq 0 0, dq 0 0, dq 0 0, dq 0 0, dq 0 0, dq 0 0, dq 0 0, dq 0 0, dq 0 1, dq 0 1, dm, dm, dq 0 0, dq 0 0] mixed (by kernel_rfl) ?_; refine autoA ?_))
  try exact trivial
  first | exact cut_none _ | exact finA
end
end Go.Sx
