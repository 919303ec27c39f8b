import Derived.Test.YtndchmmclfidgaaDoorGrB
set_option maxRecDepth 100000
set_option linter.unusedSimpArgs false
set_option linter.unusedVariables false
set_option linter.unnecessarySimpa false
namespace Go.Sx
open Go Go.Lg Go.Proofs
theorem b87 {gl : GL} : Body (C gl).P 87 Tryd.f87 (codeOf Tryd.f87) := ⟨Tryd.func87, by kernel_rfl, by kernel_rfl⟩

/-- Bit v of l. -/
def bitI (l v : Int) : Bool := andI .i64 (shrI .i64 l v) 1 == 1
mutual
def holdsF (l k : Int) : Fm → Bool
  | .mk o v ar =>
    if o = 0 then true else if o = 2 then bitI l v else if o = 3 then !(holdsL l k ar).getD 0 false else if o = 4 then (holdsL l k ar).getD 0 false && (holdsL l k ar).getD 1 false
    else if o = 5 then (holdsL l k ar).getD 0 false || (holdsL l k ar).getD 1 false else if o = 6 then !(holdsL l k ar).getD 0 false || (holdsL l k ar).getD 1 false
    else if o = 7 then (holdsL l k ar).getD 0 false == (holdsL l k ar).getD 1 false else if o = 8 then bitI k ((ar.map Fm.var).getD 0 0) else false
def holdsL (l k : Int) : List Fm → List Bool
  | [] => []
  | f :: r => holdsF l k f :: holdsL l k r
end
mutual
/-- What holds looks at is there. -/
def WfH : Fm → Prop
  | .mk o v ar => ((o = 2 → 0 ≤ v) ∧ (o = 3 → ar.length = 1) ∧ (4 ≤ o → o ≤ 7 → ar.length = 2) ∧ (o = 8 → ar.length = 1 ∧ 0 ≤ (ar.map Fm.var).getD 0 0)) ∧ WfHL ar
def WfHL : List Fm → Prop
  | [] => True
  | f :: l => WfH f ∧ WfHL l
end

section
variable {gl : GL}
theorem holds_ok (l k : Int) (f : Fm) : WfH f → PCall (C gl) 87 [encF f, .int .i64 l, .int .i64 k] (.bool (holdsF l k f)) := by
  induction f using Fm.ind with
  | h o v ar ih =>
  intro hw
  simp only [WfH] at hw
  refine pcall_of b87 (by simp [Tryd.ntmps87]) (by simp; exact ⟨closedF _, .int _ _, .int _ _⟩) (.bool _) ?_
  refine W.of ?_
  rw [Tryd.ntmps87]
  simp only [toK, codeOf, Tryd.f87, go_sem, seval, reduceCtorEq]
  refine WK.seq (WK.reg ?_)
  simp only [go_sem, seval, reduceCtorEq, encF]
  refine WK.seq (WK.seq (WK.reg ?_))
  simp only [go_sem, seval, reduceCtorEq]
  refine WK.block (WK.seq (WK.reg ?_))
  by_cases h0 : o = 0
  · subst h0
    simp only [go_sem, seval, reduceCtorEq]
    refine WK.cond true (by simp only [go_sem, seval, reduceCtorEq]) (fun _ => ?_) (fun h => by cases h)
    refine WK.seq (WK.reg ?_)
    simp only [go_sem, seval, reduceCtorEq]
    refine WK.ret ?_
    simp only [go_sem, seval, reduceCtorEq, holdsF]
  have b0 : (o == 0) = false := by simp [h0]
  simp only [go_sem, seval, reduceCtorEq, b0]
  refine WK.cond false (by simp only [go_sem, seval, reduceCtorEq]) (fun h => by cases h) (fun _ => ?_)
  refine WK.seq (WK.reg ?_)
  by_cases h2 : o = 2
  · subst h2
    simp only [go_sem, seval, reduceCtorEq]
    refine WK.cond true (by simp only [go_sem, seval, reduceCtorEq]) (fun _ => ?_) (fun h => by cases h)
    refine WK.seq (WK.reg ?_)
    simp only [go_sem, seval, reduceCtorEq]
    refine ⟨hw.1.1 rfl, ?_⟩
    refine WK.ret ?_
    simp only [go_sem, seval, reduceCtorEq, holdsF, bitI]
  have b2 : (o == 2) = false := by simp [h2]
  simp only [go_sem, seval, reduceCtorEq, b2]
  refine WK.cond false (by simp only [go_sem, seval, reduceCtorEq]) (fun h => by cases h) (fun _ => ?_)
  refine WK.seq (WK.reg ?_)
  by_cases h3 : o = 3
  · subst h3
    obtain ⟨l0, rfl⟩ : ∃ l0, ar = [l0] := List.length_eq_one_iff.1 (hw.1.2.1 rfl)
    simp only [WfHL] at hw
    simp only [go_sem, seval, reduceCtorEq]
    refine WK.cond true (by simp only [go_sem, seval, reduceCtorEq]) (fun _ => ?_) (fun h => by cases h)
    refine WK.seq (WK.reg ?_)
    simp only [go_sem, seval, reduceCtorEq, encFs, encF_eq]
    refine callK_pure (ih l0 (by simp) hw.2.1) rfl (by simp only [go_sem, seval, reduceCtorEq]) (by simp only [go_sem, seval, reduceCtorEq, encF_eq]) ?_
    simp only [go_sem, seval, reduceCtorEq]
    refine WK.ret ?_
    simp only [go_sem, seval, reduceCtorEq, holdsF, holdsL]
  have b3 : (o == 3) = false := by simp [h3]
  simp only [go_sem, seval, reduceCtorEq, b3]
  refine WK.cond false (by simp only [go_sem, seval, reduceCtorEq]) (fun h => by cases h) (fun _ => ?_)
  refine WK.seq (WK.reg ?_)
  by_cases h4 : o = 4
  · subst h4
    obtain ⟨l0, l1, rfl⟩ : ∃ l0 l1, ar = [l0, l1] := by
      match ar, hw.1.2.2.1 (by decide) (by decide) with
      | [x, y], _ => exact ⟨x, y, rfl⟩
    simp only [WfHL] at hw
    simp only [go_sem, seval, reduceCtorEq]
    refine WK.cond true (by simp only [go_sem, seval, reduceCtorEq]) (fun _ => ?_) (fun h => by cases h)
    refine WK.seq (WK.reg ?_)
    simp only [go_sem, seval, reduceCtorEq, encFs, encF_eq]
    refine callK_pure (ih l0 (by simp) hw.2.1) rfl (by simp only [go_sem, seval, reduceCtorEq]) (by simp only [go_sem, seval, reduceCtorEq, encF_eq]) ?_
    simp only [go_sem, seval, reduceCtorEq]
    cases g0 : holdsF l k l0 with
    | true =>
      simp only [go_sem, seval, reduceCtorEq, encFs, encF_eq]
      refine callK_pure (ih l1 (by simp) hw.2.2.1) rfl (by simp only [go_sem, seval, reduceCtorEq]) (by simp only [go_sem, seval, reduceCtorEq, encF_eq]) ?_
      simp only [go_sem, seval, reduceCtorEq]
      refine WK.ret ?_
      simp only [go_sem, seval, reduceCtorEq, holdsF, holdsL, g0, Bool.true_and, Bool.false_or]
    | false =>
      simp only [go_sem, seval, reduceCtorEq]
      refine WK.ret ?_
      simp only [go_sem, seval, reduceCtorEq, holdsF, holdsL, g0, Bool.false_and, Bool.true_or]
  have b4 : (o == 4) = false := by simp [h4]
  simp only [go_sem, seval, reduceCtorEq, b4]
  refine WK.cond false (by simp only [go_sem, seval, reduceCtorEq]) (fun h => by cases h) (fun _ => ?_)
  refine WK.seq (WK.reg ?_)
  by_cases h5 : o = 5
  · subst h5
    obtain ⟨l0, l1, rfl⟩ : ∃ l0 l1, ar = [l0, l1] := by
      match ar, hw.1.2.2.1 (by decide) (by decide) with
      | [x, y], _ => exact ⟨x, y, rfl⟩
    simp only [WfHL] at hw
    simp only [go_sem, seval, reduceCtorEq]
    refine WK.cond true (by simp only [go_sem, seval, reduceCtorEq]) (fun _ => ?_) (fun h => by cases h)
    refine WK.seq (WK.reg ?_)
    simp only [go_sem, seval, reduceCtorEq, encFs, encF_eq]
    refine callK_pure (ih l0 (by simp) hw.2.1) rfl (by simp only [go_sem, seval, reduceCtorEq]) (by simp only [go_sem, seval, reduceCtorEq, encF_eq]) ?_
    simp only [go_sem, seval, reduceCtorEq]
    cases g0 : holdsF l k l0 with
    | false =>
      simp only [go_sem, seval, reduceCtorEq, encFs, encF_eq]
      refine callK_pure (ih l1 (by simp) hw.2.2.1) rfl (by simp only [go_sem, seval, reduceCtorEq]) (by simp only [go_sem, seval, reduceCtorEq, encF_eq]) ?_
      simp only [go_sem, seval, reduceCtorEq]
      refine WK.ret ?_
      simp only [go_sem, seval, reduceCtorEq, holdsF, holdsL, g0, Bool.true_and, Bool.false_or]
    | true =>
      simp only [go_sem, seval, reduceCtorEq]
      refine WK.ret ?_
      simp only [go_sem, seval, reduceCtorEq, holdsF, holdsL, g0, Bool.false_and, Bool.true_or]
  have b5 : (o == 5) = false := by simp [h5]
  simp only [go_sem, seval, reduceCtorEq, b5]
  refine WK.cond false (by simp only [go_sem, seval, reduceCtorEq]) (fun h => by cases h) (fun _ => ?_)
  refine WK.seq (WK.reg ?_)
  by_cases h6 : o = 6
  · subst h6
    obtain ⟨l0, l1, rfl⟩ : ∃ l0 l1, ar = [l0, l1] := by
      match ar, hw.1.2.2.1 (by decide) (by decide) with
      | [x, y], _ => exact ⟨x, y, rfl⟩
    simp only [WfHL] at hw
    simp only [go_sem, seval, reduceCtorEq]
    refine WK.cond true (by simp only [go_sem, seval, reduceCtorEq]) (fun _ => ?_) (fun h => by cases h)
    refine WK.seq (WK.reg ?_)
    simp only [go_sem, seval, reduceCtorEq, encFs, encF_eq]
    refine callK_pure (ih l0 (by simp) hw.2.1) rfl (by simp only [go_sem, seval, reduceCtorEq]) (by simp only [go_sem, seval, reduceCtorEq, encF_eq]) ?_
    simp only [go_sem, seval, reduceCtorEq]
    cases g0 : holdsF l k l0 with
    | true =>
      simp only [go_sem, seval, reduceCtorEq, encFs, encF_eq]
      refine callK_pure (ih l1 (by simp) hw.2.2.1) rfl (by simp only [go_sem, seval, reduceCtorEq]) (by simp only [go_sem, seval, reduceCtorEq, encF_eq]) ?_
      simp only [go_sem, seval, reduceCtorEq]
      refine WK.ret ?_
      simp only [go_sem, seval, reduceCtorEq, holdsF, holdsL, g0, Bool.true_and, Bool.false_or]
    | false =>
      simp only [go_sem, seval, reduceCtorEq]
      refine WK.ret ?_
      simp only [go_sem, seval, reduceCtorEq, holdsF, holdsL, g0, Bool.false_and, Bool.true_or]
  have b6 : (o == 6) = false := by simp [h6]
  simp only [go_sem, seval, reduceCtorEq, b6]
  refine WK.cond false (by simp only [go_sem, seval, reduceCtorEq]) (fun h => by cases h) (fun _ => ?_)
  refine WK.seq (WK.reg ?_)
  by_cases h7 : o = 7
  · subst h7
    obtain ⟨l0, l1, rfl⟩ : ∃ l0 l1, ar = [l0, l1] := by
      match ar, hw.1.2.2.1 (by decide) (by decide) with
      | [x, y], _ => exact ⟨x, y, rfl⟩
    simp only [WfHL] at hw
    simp only [go_sem, seval, reduceCtorEq]
    refine WK.cond true (by simp only [go_sem, seval, reduceCtorEq]) (fun _ => ?_) (fun h => by cases h)
    refine WK.seq ?_
    refine WK.draw [⟨false, 0, 0⟩, ⟨false, 0, 0⟩, ⟨false, 0, 0⟩, ⟨false, 0, 0⟩, ⟨false, 0, 0⟩, ⟨false, 0, 0⟩, ⟨true, 0, 0⟩, ⟨false, 0, 0⟩, ⟨false, 1, 0⟩, ⟨false, 1, 0⟩, ⟨false, 1, 0⟩, ⟨false, 0, 0⟩, ⟨false, 0, 0⟩, ⟨true, 0, 0⟩, ⟨false, 0, 0⟩, ⟨false, 0, 0⟩] mixed (by kernel_rfl) ?_
    simp only [go_sem, seval, reduceCtorEq, encFs, encF_eq]
    refine callD_pure (ih l0 (by simp) hw.2.1) rfl (by simp only [go_sem, seval, reduceCtorEq]) (by simp only [go_sem, seval, reduceCtorEq, encF_eq]) ?_
    simp only [go_sem, seval, reduceCtorEq, encFs, encF_eq]
    refine callD_pure (ih l1 (by simp) hw.2.2.1) rfl (by simp only [go_sem, seval, reduceCtorEq]) (by simp only [go_sem, seval, reduceCtorEq, encF_eq]) ?_
    simp only [go_sem, seval, reduceCtorEq]
    refine WK.ret ?_
    simp only [go_sem, seval, reduceCtorEq, holdsF, holdsL]
  have b7 : (o == 7) = false := by simp [h7]
  simp only [go_sem, seval, reduceCtorEq, b7]
  refine WK.cond false (by simp only [go_sem, seval, reduceCtorEq]) (fun h => by cases h) (fun _ => ?_)
  refine WK.seq (WK.reg ?_)
  by_cases h8 : o = 8
  · subst h8
    obtain ⟨hl1, hv⟩ := hw.1.2.2.2 rfl
    obtain ⟨l0, rfl⟩ : ∃ l0, ar = [l0] := List.length_eq_one_iff.1 hl1
    simp only [go_sem, seval, reduceCtorEq]
    refine WK.cond true (by simp only [go_sem, seval, reduceCtorEq]) (fun _ => ?_) (fun h => by cases h)
    refine WK.seq (WK.reg ?_)
    simp only [go_sem, seval, reduceCtorEq, encFs, encF_eq]
    simp only [go_sem, seval, reduceCtorEq] at hv
    refine ⟨hv, ?_⟩
    refine WK.ret ?_
    simp only [go_sem, seval, reduceCtorEq, holdsF, holdsL, bitI]
  have b8 : (o == 8) = false := by simp [h8]
  simp only [go_sem, seval, reduceCtorEq, b8]
  refine WK.cond false (by simp only [go_sem, seval, reduceCtorEq]) (fun h => by cases h) (fun _ => ?_)
  refine WK.skip ?_
  simp only [go_sem, seval, reduceCtorEq]
  refine WK.seq (WK.reg ?_)
  simp only [go_sem, seval, reduceCtorEq]
  refine WK.ret ?_
  simp only [go_sem, seval, reduceCtorEq, holdsF, h0, h2, h3, h4, h5, h6, h7, h8]
end
end Go.Sx
