import Derived.Test.YtndchmmclfidgaaDoorRgK
import Derived.Test.YtndchmmclfidgaaDoorRfJ
import Derived.Test.YtndchmmclfidgaaDoorLgAw
set_option maxRecDepth 100000
set_option maxHeartbeats 4000000
set_option linter.unusedSimpArgs false
set_option linter.unusedVariables false
set_option linter.unnecessarySimpa false
namespace Go.Sx
open Go Go.Lg Go.Proofs
theorem b7 {gl : GL} : Body (C gl).P 7 Tryd.f7 (codeOf Tryd.f7) := ⟨Tryd.func7, by kernel_rfl, by kernel_rfl⟩
def mc0 : Mc := ⟨0, 0, [], []⟩
theorem mc0_eq : encM mc0 = .agg [.int .i64 0, .int .i64 0, .list false [], .list false []] := (rfl)
section
variable {gl : GL} (har : gl.at' 0 = arityA)
include har
theorem mach_no (c : Ct) (hs : ShrtC c) (hv : validC c = false) : PCall (C gl) 34 [encC c] (.tup [encM mc0, .int .i64 1]) := by
  refine pcallX (callX_of b34 (by simp [Tryd.ntmps34]) ?_) (by simp only [AllCl, cl_encC, and_true]) (by simp only [cl_tup, AllCl, cl_int, and_true]; exact cl_encM _)
  have hval : Ctr (C gl) 33 [encC c] True (.bool (validC c)) := ⟨fun _ => gvalid_ok har c hs⟩
  simp only [encC_eq] at hval
  refine W.of ?_
  rw [Tryd.ntmps34]
  simp only [toK, codeOf, Tryd.f34, go_sem, seval, reduceCtorEq]
  have H := And.intro @ct_nz (And.intro @ct_al (And.intro @hv @mc0_eq))
  refine autoA ?_
  repeat' (first | (refine WK.drawF (ops := #[_, _, _, _, _, _, _, _, _, _]) [dm, dq 1 3, dm, dq 0 0, dq 2 3, dq 0 0, dm, dm, dm, dm] mixed (by kernel_rfl) ?_; refine autoA ?_) | (refine WK.draw (ops := #[_, _, _, _, _, _]) [dq 0 0, dq 0 0, dq 0 0, dq 0 0, dq 0 0, dm] mixed (by kernel_rfl) ?_; refine autoA ?_) | (refine WK.draw (ops := #[_, _, _, _, _, _, _, _, _, _, _, _]) [dq 0 0, dq 0 0, dq 0 0, dm, dq 1 0, dq 1 0, dq 1 0, dq 1 0, dq 0 0, dm, dm, dm] mixed (by kernel_rfl) ?_; refine autoA ?_) | (refine WK.draw (ops := #[_, _, _, _, _, _, _, _, _, _, _, _, _, _]) [dq 0 0, dq 0 0, dq 0 0, dq 0 0, dm, dq 0 0, dq 1 0, dq 1 0, dq 0 0, dm, dq 0 0, dm, dq 0 0, dm] mixed (by kernel_rfl) ?_; refine autoA ?_))
  try exact trivial
  exact ⟨AV.le_tup ⟨AV.le_agg ⟨.refl _, .refl _, AV.le_list' _, AV.le_list' _, trivial⟩, .refl _, trivial⟩, cut_none _⟩
theorem mach_none (c : Ct) (a b : Nat) (hs : ShrtC c) (hv : validC c = true) (hc : CtOK c a b) (hk : keptB c a b (wonB (tab c a b)) = false) : PCall (C gl) 34 [encC c] (.tup [encM mc0, .int .i64 5]) := by
  have hst := stab_tab hc
  refine pcallX (callX_of b34 (by simp [Tryd.ntmps34]) ?_) (by simp only [AllCl, cl_encC, and_true]) (by simp only [cl_tup, AllCl, cl_int, and_true]; exact cl_encM _)
  have hok := tab_ok hc
  have hval : Ctr (C gl) 33 [encC c] True (.bool (validC c)) := ⟨fun _ => gvalid_ok har c hs⟩
  have htab : ∀ σ, CtrX (C gl) 74 [encC c] [] σ True (.ptr (σ.next + 1) 0) ((σ.add (.box (ctCells c))).add (.box (tbCells (tab c a b)))) := fun σ => ⟨fun _ => tableOf_ok c a b σ hc⟩
  simp only [encC_eq] at hval htab
  have hwon : ∀ σ, CtrX (C gl) 75 [.ptr 3 0] [] σ (σ.get 3 = some (.box (tbCells (tab c a b))) ∧ 3 < σ.next) (.int .u64 (uB (wonB (tab c a b)))) σ := fun σ => ⟨fun h => won_ok 3 (tab c a b) σ hok hst h.1 h.2⟩
  have hkep : ∀ σ, CtrX (C gl) 77 [.ptr 3 0, .int .u64 (uB (wonB (tab c a b)))] [] σ (σ.get 3 = some (.box (tbCells (tab c a b)))) (.bool (keptB (tab c a b).c a b (wonB (tab c a b)))) σ := fun σ => ⟨fun h => kept_ok 3 (tab c a b) a b (wonB (tab c a b)) σ hc h⟩
  have hk' : keptB (tab c a b).c a b (wonB (tab c a b)) = false := hk
  refine W.of ?_
  rw [Tryd.ntmps34]
  simp only [toK, codeOf, Tryd.f34, go_sem, seval, reduceCtorEq]
  have H := And.intro @ct_nz (And.intro @ct_al (And.intro @hv (And.intro @hk' @mc0_eq)))
  refine autoA ?_
  repeat' (first | (refine WK.drawF (ops := #[_, _, _, _, _, _, _, _, _, _]) [dm, dq 1 3, dm, dq 0 0, dq 2 3, dq 0 0, dm, dm, dm, dm] mixed (by kernel_rfl) ?_; refine autoA ?_) | (refine WK.draw (ops := #[_, _, _, _, _, _]) [dq 0 0, dq 0 0, dq 0 0, dq 0 0, dq 0 0, dm] mixed (by kernel_rfl) ?_; refine autoA ?_) | (refine WK.draw (ops := #[_, _, _, _, _, _, _, _, _, _, _, _]) [dq 0 0, dq 0 0, dq 0 0, dm, dq 1 0, dq 1 0, dq 1 0, dq 1 0, dq 0 0, dm, dm, dm] mixed (by kernel_rfl) ?_; refine autoA ?_) | (refine WK.draw (ops := #[_, _, _, _, _, _, _, _, _, _, _, _, _, _]) [dq 0 0, dq 0 0, dq 0 0, dq 0 0, dm, dq 0 0, dq 1 0, dq 1 0, dq 0 0, dm, dq 0 0, dm, dq 0 0, dm] mixed (by kernel_rfl) ?_; refine autoA ?_))
  try exact trivial
  exact ⟨AV.le_tup ⟨AV.le_agg ⟨.refl _, .refl _, AV.le_list' _, AV.le_list' _, trivial⟩, .refl _, trivial⟩, cut_none _⟩
end
section
variable {gl : GL} (har : gl.at' 0 = arityA) (hdb : gl.at' 4 = dbA)
include har hdb
theorem grmachine_ok (c : Ct) (hs : ShrtC c) : PCall (C gl) 7 [encC c] (.bool true) := by
  have haw : Ctr (C gl) 16 [] True (.bool true) := ⟨fun _ => awake_yes har⟩
  have hfew : Ctr (C gl) 15 [encC c] True (.bool (fewC c)) := ⟨fun _ => few_ok c hs⟩
  have hval : Ctr (C gl) 22 [encC c] True (.bool (validC c)) := ⟨fun _ => by rw [← rvalC_eq]; exact rvalid_ok c hs⟩
  simp only [encC_eq] at hfew hval
  refine pcallX (callX_of b7 (by simp [Tryd.ntmps7]) ?_) (by simp only [AllCl, cl_encC, and_true]) (.bool _)
  refine W.of ?_
  rw [Tryd.ntmps7]
  simp only [toK, codeOf, Tryd.f7, go_sem, seval, reduceCtorEq]
  cases k1 : fewC c with
  | false =>
    have H := And.intro @ct_nz (And.intro @ct_al @k1)
    refine autoA ?_
    try exact trivial
    exact cut_none _
  | true =>
  cases k2 : validC c with
  | false =>
    have hm : Ctr (C gl) 34 [encC c] True (.tup [encM mc0, .int .i64 1]) := ⟨fun _ => mach_no har c hs k2⟩
    have hkp : Ctr (C gl) 19 [encC c] True (.tup [.bool false, .int .i64 1]) := ⟨fun _ => gkept_no (gl := gl) har c hs k2⟩
    simp only [encC_eq, mc0_eq] at hm hkp
    have H := And.intro @ct_nz (And.intro @ct_al (And.intro @k1 @k2))
    refine autoA ?_
    try exact trivial
    exact cut_none _
  | true =>
  obtain ⟨a, b, hc⟩ := valid_ct k2
  have ho := okC_of k2 hc
  have hkp : Ctr (C gl) 19 [encC c] True (.tup [.bool (keptB c a b (wonB (tab c a b))), .int .i64 0]) := ⟨fun _ => gkept_yes (gl := gl) har c a b hs k2 hc.toCtOK (stab_tab hc.toCtOK)⟩
  cases k3 : keptB c a b (wonB (tab c a b)) with
  | false =>
    have hm : Ctr (C gl) 34 [encC c] True (.tup [encM mc0, .int .i64 5]) := ⟨fun _ => mach_none har c a b hs k2 hc.toCtOK k3⟩
    rw [k3] at hkp
    simp only [encC_eq, mc0_eq] at hm hkp
    have H := And.intro @ct_nz (And.intro @ct_al (And.intro @k1 @k2))
    refine autoA ?_
    try exact trivial
    exact cut_none _
  | true =>
    obtain ⟨ps, hmc⟩ := mch_is ho
    have hf := mc_fit ho hmc
    have hsy := mc_sat ho hmc k3
    have hm : Ctr (C gl) 34 [encC c] True (.tup [encM (mchG c a b), .int .i64 0]) := ⟨fun _ => mach_yes har hdb c a b hs k2 ho k3⟩
    rw [k3] at hkp
    generalize mchG c a b = m at *
    have hA := rows_len m.ans
    have hfit : Ctr (C gl) 23 [encC c, encM m] True (.bool (fitB m a b)) := ⟨fun _ => fit_ok c m a b hc.toCtOK⟩
    rw [fit_yes hf] at hfit
    simp only [encC_eq, encM_eq] at hm hkp hfit
    cases k4 : decide ((200 : Int) < (m.ans.length : Int)) with
    | true =>
      have H := And.intro @ct_nz (And.intro @ct_al (And.intro @k1 (And.intro @k2 (And.intro @hA @k4))))
      refine autoA ?_
      try exact trivial
      exact cut_none _
    | false =>
      have j4 := of_decide_eq_false k4
      have hsat : Ctr (C gl) 25 [encC c, encM m] True (.bool (satB c m a b)) := ⟨fun _ => sat_ok c m a b hc hf (by omega) ho.l⟩
      rw [hsy] at hsat
      simp only [encC_eq, encM_eq] at hsat
      clear j4
      have H := And.intro @ct_nz (And.intro @ct_al (And.intro @k1 (And.intro @k2 (And.intro @hA @k4))))
      refine autoA ?_
      try exact trivial
      exact cut_none _
end
end Go.Sx
