import Derived.Test.YtndchmmclfidgaaDoorGxN
set_option maxRecDepth 100000
set_option linter.unusedSimpArgs false
set_option linter.unusedVariables false
set_option linter.unnecessarySimpa false
namespace Go.Sx
open Go Go.Lg Go.Proofs

/-! ## The two contracts of the law -/
def fixV (f : BitVec 64 → BitVec 64) (x : BitVec 64) : BitVec 64 := match fixR f (fun _ (u : Unit) => u) 67 x () with
  | some r => r.1
  | none => 0#64
theorem fixV_eq {f : BitVec 64 → BitVec 64} {x y : BitVec 64} (h : fixR f (fun _ (u : Unit) => u) 67 x () = some (y, ())) : fixV f x = y := by
  unfold fixV; rw [h]
def xV (t : Tb) (s f : BitVec 64) : BitVec 64 := fixV (xStep t s f) (allB t.n)
def yV (t : Tb) (z j y : BitVec 64) : BitVec 64 := orB (t.je.map (xV t ((j &&& aheadB t z) ||| aheadB t y)))
def zyV (t : Tb) (z j : BitVec 64) : BitVec 64 := fixV (yV t z j) 0#64
def zV (t : Tb) (z : BitVec 64) : BitVec 64 := t.js.foldl (fun out j => out &&& zyV t z j) z
def wonV (t : Tb) : BitVec 64 := fixV (zV t) (allB t.n)
theorem yV_eq {t : Tb} (h : Stab t) (z j : BitVec 64) : yV t z j = yStep t (j &&& aheadB t z) := by
  funext y
  unfold yV yStep
  congr 2
  funext f
  exact fixV_eq (h.x j z y f)
theorem zyV_eq {t : Tb} (h : Stab t) (z j : BitVec 64) : zyV t z j = zY t z j := by
  unfold zyV
  rw [yV_eq h]
  obtain ⟨lv, e⟩ := h.y j z
  exact fixV_eq (fixR_unit _ _ _ _ e)
theorem zV_eq {t : Tb} (h : Stab t) : zV t = zStep t := by
  funext z
  unfold zV zStep
  congr 1
  funext out j
  rw [zyV_eq h]
theorem wonV_eq {t : Tb} (h : Stab t) : wonV t = wonB t := by
  unfold wonV
  rw [zV_eq h]
  exact fixV_eq h.z
theorem ok1 : CtOK (exC ex1) 1 1 := ⟨rfl, rfl, by omega, by omega, by simp [exC, WfH, WfHL], by simp [exC, WfH, WfHL], by simp [exC, WfH, WfHL], by simp [exC, ex1, WfH, WfHL, Fm.var], by simp [exC, WfH, WfHL], by simp [exC, WfH, WfHL], by simp [exC], by simp [exC]⟩
theorem ok2 : CtOK (exC ex2) 1 1 := ⟨rfl, rfl, by omega, by omega, by simp [exC, WfH, WfHL], by simp [exC, WfH, WfHL], by simp [exC, WfH, WfHL], by simp [exC, ex2, WfH, WfHL, Fm.var], by simp [exC, WfH, WfHL], by simp [exC, WfH, WfHL], by simp [exC], by simp [exC]⟩
theorem shrt1 : ShrtC (exC ex1) := by
  refine ⟨?_, ?_, ?_, ?_, ?_, ?_, ?_, ?_⟩ <;> simp [exC, ex1, Shrt, ShrtL]
theorem shrt2 : ShrtC (exC ex2) := by
  refine ⟨?_, ?_, ?_, ?_, ?_, ?_, ?_, ?_⟩ <;> simp [exC, ex2, Shrt, ShrtL]
theorem val1 : validC (exC ex1) = true := by kernel_rfl
theorem val2 : validC (exC ex2) = true := by kernel_rfl
theorem kv1 : keptB (exC ex1) 1 1 (wonV (tab (exC ex1) 1 1)) = true := by kernel_rfl
theorem kv2 : keptB (exC ex2) 1 1 (wonV (tab (exC ex2) 1 1)) = false := by kernel_rfl
section
variable {gl : GL} (har : gl.at' 0 = arityA)
include har
theorem awake_yes : PCall (C gl) 16 [] (.bool true) := by
  refine awake_ok ?_ ?_
  · have := gkept_yes (gl := gl) har (exC ex1) 1 1 shrt1 val1 ok1 (stab_tab ok1)
    rwa [← wonV_eq (stab_tab ok1), kv1] at this
  · have := gkept_yes (gl := gl) har (exC ex2) 1 1 shrt2 val2 ok2 (stab_tab ok2)
    rwa [← wonV_eq (stab_tab ok2), kv2] at this
theorem grwins_true (c : Ct) (hs : ShrtC c) : PCall (C gl) 3 [encC c] (.bool true) := by
  refine grwins_ok har c hs (awake_yes har) fun hv a b hc => ?_
  have hp := plainC_of hv
  have h1 := stab_tab hc.toCtOK
  have h2 := stabR_of hc.toCtOK hp h1
  exact ⟨h1, h2, RW_eq hc.toCtOK hp, kept_eq hc.toCtOK hp _⟩
end
end Go.Sx
