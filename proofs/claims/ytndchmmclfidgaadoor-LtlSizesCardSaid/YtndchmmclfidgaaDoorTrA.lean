import Derived.Test.YtndchmmclfidgaaDoorTkN
import Derived.Test.YtndchmmclfidgaaDoorLgAv
set_option maxRecDepth 100000
set_option maxHeartbeats 4000000
set_option linter.unusedSimpArgs false
set_option linter.unusedVariables false
set_option linter.unnecessarySimpa false
namespace Go.Sx
open Go Go.Lg Go.Proofs
theorem b218 {gl : GL} : Body (C gl).P 218 Tryd.f218 (codeOf Tryd.f218) := ⟨Tryd.func218, by kernel_rfl, by kernel_rfl⟩
theorem b217 {gl : GL} : Body (C gl).P 217 Tryd.f217 (codeOf Tryd.f217) := ⟨Tryd.func217, by kernel_rfl, by kernel_rfl⟩
theorem b220 {gl : GL} : Body (C gl).P 220 Tryd.f220 (codeOf Tryd.f220) := ⟨Tryd.func220, by kernel_rfl, by kernel_rfl⟩
theorem b204 {gl : GL} : Body (C gl).P 204 Tryd.f204 (codeOf Tryd.f204) := ⟨Tryd.func204, by kernel_rfl, by kernel_rfl⟩
theorem b219 {gl : GL} : Body (C gl).P 219 Tryd.f219 (codeOf Tryd.f219) := ⟨Tryd.func219, by kernel_rfl, by kernel_rfl⟩
theorem b221 {gl : GL} : Body (C gl).P 221 Tryd.f221 (codeOf Tryd.f221) := ⟨Tryd.func221, by kernel_rfl, by kernel_rfl⟩
/-! ## Rules that make a formula simpler -/
def constF (yes : Bool) : Fm := if yes = true then .mk 0 0 [] else .mk 1 0 []
def arg (f : Fm) (i : Nat) : Fm := f.args.getD i fz
def notF (f : Fm) : Fm := if (f.op == 0) = true then .mk 1 0 [] else if (f.op == 1) = true then .mk 0 0 [] else if (f.op == 3) = true then arg f 0 else .mk 3 0 [f]
def oneF (f : Fm) : Fm × Bool :=
  let a := arg f 0
  if (f.op == 3) = true then
    (if (a.op == 0) = true then (notF a, true) else if (a.op == 1) = true then (notF a, true) else if (a.op == 3) = true then (notF a, true) else (f, false))
  else if (a.op == 0) = true then (a, true) else if (a.op == 1) = true then (a, true)
  else if (f.op == a.op) = true then (if (f.op == 9) = true then (a, true) else if (f.op == 10) = true then (a, true) else (f, false))
  else (f, false)
section
variable {gl : GL}
instance make_i (o : Int) (l : List Fm) : Ctr (C gl) 161 [.int .i64 o, .list false (encFs l)] True (encF (.mk o 0 l)) := ⟨fun _ => make_ok false o l⟩
instance make_i0 (o : Int) : Ctr (C gl) 161 [.int .i64 o, .list false []] True (encF (.mk o 0 [])) := ⟨fun _ => make_ok false o []⟩
theorem wis_ok (f : Fm) (o : Int) : PCall (C gl) 218 [encF f, .int .i64 o] (.bool (f.op == o)) := by
  refine pcallX (callX_of b218 (by simp [Tryd.ntmps218]) ?_) (by simp only [AllCl, cl_encF, cl_int, and_true]) (.bool _)
  refine W.of ?_
  rw [Tryd.ntmps218]
  simp only [toK, codeOf, Tryd.f218, go_sem, seval, reduceCtorEq]
  have H := trivial
  refine autoA ?_
  try exact trivial
  exact cut_none _
instance wis_i (f : Fm) (o : Int) : Ctr (C gl) 218 [encF f, .int .i64 o] True (.bool (f.op == o)) := ⟨fun _ => wis_ok f o⟩
theorem const_ok (b : Bool) : PCall (C gl) 217 [.bool b] (encF (constF b)) := by
  refine pcallX (callX_of b217 (by simp [Tryd.ntmps217]) ?_) (by simp only [AllCl, cl_bool, and_true]) (by simp only [cl_encF])
  refine W.of ?_
  rw [Tryd.ntmps217]
  simp only [toK, codeOf, Tryd.f217, go_sem, seval, reduceCtorEq]
  cases b
  all_goals
    have H := trivial
    refine autoA ?_
    try exact trivial
    first | exact cut_none _ | (refine finA (by first | (simp only [go_sem, seval, reduceCtorEq, constF, encF_fold, encF_fold0, Fm.eta, encFs_fold1, encFs_fold2, encFs_fold3]; done) | (simp only [go_sem, seval, reduceCtorEq, constF, encF_fold, encF_fold0, Fm.eta, encFs_fold1, encFs_fold2, encFs_fold3]; rfl)))
instance const_i (b : Bool) : Ctr (C gl) 217 [.bool b] True (encF (constF b)) := ⟨fun _ => const_ok b⟩
/-- Argument counts fit the operator. -/
def ar1 (f : Fm) : Prop := ∃ g, f.args = [g]
theorem args1 {f : Fm} {g : Fm} (h : f.args = [g]) : arg f 0 = g ∧ f = .mk f.op f.var [g] := by
  refine ⟨by rw [arg, h]; rfl, ?_⟩
  cases f; simp only [fm_args] at h; simp only [fm_op, fm_var, h]
theorem wnot_ok (f : Fm) (h : f.op = 3 → ∃ g, f.args = [g]) : PCall (C gl) 220 [encF f] (encF (notF f)) := by
  refine pcallX (callX_of b220 (by simp [Tryd.ntmps220]) ?_) (by simp only [AllCl, cl_encF, and_true]) (by simp only [cl_encF])
  refine W.of ?_
  rw [Tryd.ntmps220]
  simp only [toK, codeOf, Tryd.f220, go_sem, seval, reduceCtorEq]
  cases h0 : (f.op == 0) with
  | true =>
    have e := eq_of_beq h0
    have H := @e
    refine autoA ?_
    try exact trivial
    first | exact cut_none _ | (refine finA (by first | (simp only [go_sem, seval, reduceCtorEq, notF, e, constF, encF_fold, encF_fold0, Fm.eta, encFs_fold1, encFs_fold2, encFs_fold3]; done) | (simp only [go_sem, seval, reduceCtorEq, notF, e, constF, encF_fold, encF_fold0, Fm.eta, encFs_fold1, encFs_fold2, encFs_fold3]; rfl)))
  | false =>
  cases h1 : (f.op == 1) with
  | true =>
    have e := eq_of_beq h1
    have H := @e
    refine autoA ?_
    try exact trivial
    first | exact cut_none _ | (refine finA (by first | (simp only [go_sem, seval, reduceCtorEq, notF, e, constF, encF_fold, encF_fold0, Fm.eta, encFs_fold1, encFs_fold2, encFs_fold3]; done) | (simp only [go_sem, seval, reduceCtorEq, notF, e, constF, encF_fold, encF_fold0, Fm.eta, encFs_fold1, encFs_fold2, encFs_fold3]; rfl)))
  | false =>
  cases h3 : (f.op == 3) with
  | true =>
    have e := eq_of_beq h3
    obtain ⟨g, hg⟩ := h e
    have H := And.intro @e @hg
    refine autoA ?_
    try exact trivial
    first | exact cut_none _ | (refine finA (by first | (simp only [go_sem, seval, reduceCtorEq, notF, e, (args1 hg).1, encF_fold, encF_fold0, Fm.eta, encFs_fold1, encFs_fold2, encFs_fold3]; done) | (simp only [go_sem, seval, reduceCtorEq, notF, e, (args1 hg).1, encF_fold, encF_fold0, Fm.eta, encFs_fold1, encFs_fold2, encFs_fold3]; rfl)))
  | false =>
    have H := And.intro @h0 (And.intro @h1 @h3)
    refine autoA ?_
    try exact trivial
    first | exact cut_none _ | (refine finA (by first | (simp only [go_sem, seval, reduceCtorEq, notF, h0, h1, h3, encF_fold, encF_fold0, Fm.eta, encFs_fold1, encFs_fold2, encFs_fold3]; done) | (simp only [go_sem, seval, reduceCtorEq, notF, h0, h1, h3, encF_fold, encF_fold0, Fm.eta, encFs_fold1, encFs_fold2, encFs_fold3]; rfl)))
instance wnot_i (f : Fm) : Ctr (C gl) 220 [encF f] (f.op = 3 → ∃ g, f.args = [g]) (encF (notF f)) := ⟨wnot_ok f⟩
theorem wone_k (o v : Int) (g : Fm) (hn : g.op = 3 → ∃ x, g.args = [x]) : PCall (C gl) 204 [encF (.mk o v [g])] (.tup [encF (oneF (.mk o v [g])).1, .bool (oneF (.mk o v [g])).2]) := by
  refine pcallX (callX_of b204 (by simp [Tryd.ntmps204]) ?_) (by simp only [AllCl, cl_encF, and_true]) (by simp only [cl_tup, AllCl, cl_encF, cl_bool, and_true])
  refine W.of ?_
  rw [Tryd.ntmps204]
  simp only [toK, codeOf, Tryd.f204, go_sem, seval, reduceCtorEq]
  have ha : arg (.mk o v [g]) 0 = g := rfl
  have H := trivial
  refine autoA ?_
  repeat' (first | (refine WK.condS (ht := ?_) (hf := ?_) <;> intro hb <;> (try simp only [Bool.not_eq_true', Bool.not_eq_false'] at hb) <;> (try simp only [hb]) <;> refine autoA ?_) | (refine gdW_S ?_ ?_ <;> intro hb <;> (try simp only [Bool.not_eq_true', Bool.not_eq_false'] at hb) <;> (try simp only [hb]) <;> refine autoA ?_) | (refine gdD_S ?_ ?_ <;> intro hb <;> (try simp only [Bool.not_eq_true', Bool.not_eq_false'] at hb) <;> (try simp only [hb]) <;> refine autoA ?_))
  all_goals try exact trivial
  all_goals first | exact cut_none _ | (refine finA (by first | (simp only [go_sem, seval, reduceCtorEq, encF_fold, encF_fold0, Fm.eta, encFs_fold1, encFs_fold2, encFs_fold3, oneF, *]; done) | (simp only [go_sem, seval, reduceCtorEq, encF_fold, encF_fold0, Fm.eta, encFs_fold1, encFs_fold2, encFs_fold3, oneF, *]; rfl))) | (exfalso; simp_all; done)
end
end Go.Sx
