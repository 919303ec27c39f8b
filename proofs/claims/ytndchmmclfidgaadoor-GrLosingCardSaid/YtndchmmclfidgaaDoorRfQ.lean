import Derived.Test.YtndchmmclfidgaaDoorRfP
import Derived.Test.YtndchmmclfidgaaDoorRfJ
import Derived.Test.YtndchmmclfidgaaDoorLgAw
set_option maxRecDepth 100000
set_option maxHeartbeats 4000000
set_option linter.unusedSimpArgs false
set_option linter.unusedVariables false
set_option linter.unnecessarySimpa false
namespace Go.Sx
open Go Go.Lg Go.Proofs
theorem b4 {gl : GL} : Body (C gl).P 4 Tryd.f4 (codeOf Tryd.f4) := ⟨Tryd.func4, by kernel_rfl, by kernel_rfl⟩
theorem ct_one (c : Ct) : (ctCells c).all AV.one = true := by cases c; rfl
theorem bitsA_len (n : Nat) (z : BitVec 64) : (bitsA n z).length = n := by simp [bitsA]
section
variable {gl : GL} (har : gl.at' 0 = arityA)
include har
theorem grlosing_ok (c : Ct) (m : Mc) (s l : Int) (hs : ShrtC c) : PCall (C gl) 4 [encC c, encM m, .int .i64 s, .int .i64 l] (.bool true) := by
  have haw : Ctr (C gl) 16 [] True (.bool true) := ⟨fun _ => awake_yes har⟩
  have hfew : Ctr (C gl) 15 [encC c] True (.bool (fewC c)) := ⟨fun _ => few_ok c hs⟩
  have hval : Ctr (C gl) 22 [encC c] True (.bool (validC c)) := ⟨fun _ => by rw [← rvalC_eq]; exact rvalid_ok c hs⟩
  simp only [encC_eq] at hfew hval
  refine pcallX (callX_of b4 (by simp [Tryd.ntmps4]) ?_) (by simp only [AllCl, cl_encC, cl_int, and_true, true_and]; exact cl_encM m) (.bool _)
  have hA := rows_len m.ans
  refine W.of ?_
  rw [Tryd.ntmps4]
  simp only [toK, codeOf, Tryd.f4, go_sem, seval, reduceCtorEq]
  cases k1 : fewC c with
  | false =>
    have H := And.intro @encM_eq (And.intro @ct_nz (And.intro @ct_one @k1))
    refine autoA ?_
    try exact trivial
    exact cut_none _
  | true =>
  cases k2 : validC c with
  | false =>
    have H := And.intro @encM_eq (And.intro @ct_nz (And.intro @ct_one (And.intro @k1 @k2)))
    refine autoA ?_
    try exact trivial
    exact cut_none _
  | true =>
  obtain ⟨a, b, hc⟩ := valid_ct k2
  have ho := okC_of k2 hc
  have hin := hc.inn
  have hout := hc.out
  have ha3 := hc.a3
  have hb3 := hc.b3
  have hfit : Ctr (C gl) 23 [encC c, encM m] True (.bool (fitB m a b)) := ⟨fun _ => fit_ok c m a b hc.toCtOK⟩
  simp only [encC_eq, encM_eq] at hfit
  cases k3 : decide ((20 : Int) < (m.ans.length : Int)) with
  | true =>
    have H := And.intro @encM_eq (And.intro @ct_nz (And.intro @ct_one (And.intro @k1 (And.intro @k2 (And.intro @hA @k3)))))
    refine autoA ?_
    try exact trivial
    exact cut_none _
  | false =>
  cases k4 : fitB m a b with
  | false =>
    have H := And.intro @encM_eq (And.intro @ct_nz (And.intro @ct_one (And.intro @k1 (And.intro @k2 (And.intro @hA (And.intro @k3 @k4))))))
    refine autoA ?_
    try exact trivial
    exact cut_none _
  | true =>
  cases k5 : decide (s < 0) with
  | true =>
    have H := And.intro @encM_eq (And.intro @ct_nz (And.intro @ct_one (And.intro @k1 (And.intro @k2 (And.intro @hA (And.intro @k3 (And.intro @k4 @k5)))))))
    refine autoA ?_
    try exact trivial
    exact cut_none _
  | false =>
  cases k6 : decide ((m.ans.length : Int) ≤ s) with
  | true =>
    have H := And.intro @encM_eq (And.intro @ct_nz (And.intro @ct_one (And.intro @k1 (And.intro @k2 (And.intro @hA (And.intro @k3 (And.intro @k4 (And.intro @k5 @k6))))))))
    refine autoA ?_
    try exact trivial
    exact cut_none _
  | false =>
  cases k7 : decide (l < 0) with
  | true =>
    have H := And.intro @encM_eq (And.intro @ct_nz (And.intro @ct_one (And.intro @k1 (And.intro @k2 (And.intro @hA (And.intro @k3 (And.intro @k4 (And.intro @k5 (And.intro @k6 @k7)))))))))
    refine autoA ?_
    try exact trivial
    exact cut_none _
  | false =>
  have sw := wrap_add_nat a b (by omega)
  have q1 := shl_one (a + b) (by omega)
  have p3 := pow2_le (a := a + b) 6 (by omega)
  cases k8 : decide (((2 ^ (a + b) : Nat) : Int) ≤ l) with
  | true =>
    have H := And.intro @encM_eq (And.intro @ct_nz (And.intro @ct_one (And.intro @k1 (And.intro @k2 (And.intro @hA (And.intro @k3 (And.intro @k4 (And.intro @k5 (And.intro @k6 (And.intro @k7 (And.intro @hin (And.intro @hout (And.intro @sw (And.intro @q1 @k8))))))))))))))
    refine autoA ?_
    try exact trivial
    exact cut_none _
  | false =>
  have hf := fit_iff.1 k4
  have j3 := of_decide_eq_false k3
  have j5 := of_decide_eq_false k5
  have j6 := of_decide_eq_false k6
  have j7 := of_decide_eq_false k7
  have j8 := of_decide_eq_false k8
  obtain ⟨s', rfl⟩ := Int.eq_ofNat_of_zero_le (show 0 ≤ s by omega)
  obtain ⟨l', rfl⟩ := Int.eq_ofNat_of_zero_le (show 0 ≤ l by omega)
  have hs' : s' < m.ans.length := by omega
  have hl' : l' < 2 ^ (a + b) := by omega
  have hwon : Ctr (C gl) 17 [encC c] True (.tup [.list false (bitsA (2 ^ (a + b)) (wonB (tab c a b))), .int .i64 0]) := ⟨fun _ => by
    have := won_yes (gl := gl) har c a b hs k2 hc.toCtOK (stab_tab hc.toCtOK)
    rwa [encBs_bits] at this⟩
  have hkep : Ctr (C gl) 19 [encC c] True (.tup [.bool (keptB c a b (wonB (tab c a b))), .int .i64 0]) := ⟨fun _ => gkept_yes (gl := gl) har c a b hs k2 hc.toCtOK (stab_tab hc.toCtOK)⟩
  have hhol : Ctr (C gl) 24 [encC c, encM m, .int .i64 s', .int .i64 l'] True (.bool (hldB c m a b (s' * 2 ^ (a + b) + l'))) := ⟨fun _ => rholds_ok c m a b s' l' hc hf (by omega) ho.l hs' hl'⟩
  have hsat : Ctr (C gl) 25 [encC c, encM m] True (.bool (satB c m a b)) := ⟨fun _ => sat_ok c m a b hc hf (by omega) ho.l⟩
  simp only [encC_eq, encM_eq] at hwon hkep hhol hsat
  have hw : hldB c m a b (s' * 2 ^ (a + b) + l') = true → (wonB (tab c a b)).getLsbD l' = true := fun h => by
    have := hld_won ho hf (x := s' * 2 ^ (a + b) + l') (by
      have := Nat.mul_le_mul_right (2 ^ (a + b)) (Nat.succ_le_of_lt hs')
      rw [Nat.succ_mul] at this; omega) h
    rwa [Nat.add_comm, Nat.add_mul_mod_self_right, Nat.mod_eq_of_lt hl'] at this
  have hk := sat_kept ho hf
  have hbl := bitsA_len (2 ^ (a + b)) (wonB (tab c a b))
  have hbg := bits_get hl' (wonB (tab c a b))
  generalize hldB c m a b (s' * 2 ^ (a + b) + l') = h1 at *
  generalize satB c m a b = h2 at *
  generalize keptB c a b (wonB (tab c a b)) = h3 at *
  generalize (wonB (tab c a b)).getLsbD l' = h4 at *
  generalize bitsA (2 ^ (a + b)) (wonB (tab c a b)) = L at *
  clear j3 j5 j6 j7 j8
  cases h1 with
  | false =>
    cases h3 with
    | true =>
      have H := And.intro @encM_eq (And.intro @ct_nz (And.intro @ct_one (And.intro @k1 (And.intro @k2 (And.intro @hA (And.intro @k3 (And.intro @k4 (And.intro @k5 (And.intro @k6 (And.intro @k7 (And.intro @hin (And.intro @hout (And.intro @sw (And.intro @q1 (And.intro @k8 (And.intro @hbl (And.intro @hbg (And.intro @Int.toNat_natCast @hl'))))))))))))))))))
      refine autoA ?_
      try exact trivial
      exact cut_none _
    | false =>
      obtain rfl : h2 = false := Bool.eq_false_iff.2 fun h => Bool.noConfusion (hk h)
      have H := And.intro @encM_eq (And.intro @ct_nz (And.intro @ct_one (And.intro @k1 (And.intro @k2 (And.intro @hA (And.intro @k3 (And.intro @k4 (And.intro @k5 (And.intro @k6 (And.intro @k7 (And.intro @hin (And.intro @hout (And.intro @sw (And.intro @q1 (And.intro @k8 (And.intro @hbl (And.intro @hbg (And.intro @Int.toNat_natCast @hl'))))))))))))))))))
      refine autoA ?_
      try exact trivial
      exact cut_none _
  | true =>
    obtain rfl : h4 = true := hw rfl
    cases h3 with
    | true =>
      have H := And.intro @encM_eq (And.intro @ct_nz (And.intro @ct_one (And.intro @k1 (And.intro @k2 (And.intro @hA (And.intro @k3 (And.intro @k4 (And.intro @k5 (And.intro @k6 (And.intro @k7 (And.intro @hin (And.intro @hout (And.intro @sw (And.intro @q1 (And.intro @k8 (And.intro @hbl (And.intro @hbg (And.intro @Int.toNat_natCast @hl'))))))))))))))))))
      refine autoA ?_
      try exact trivial
      exact cut_none _
    | false =>
      obtain rfl : h2 = false := Bool.eq_false_iff.2 fun h => Bool.noConfusion (hk h)
      have H := And.intro @encM_eq (And.intro @ct_nz (And.intro @ct_one (And.intro @k1 (And.intro @k2 (And.intro @hA (And.intro @k3 (And.intro @k4 (And.intro @k5 (And.intro @k6 (And.intro @k7 (And.intro @hin (And.intro @hout (And.intro @sw (And.intro @q1 (And.intro @k8 (And.intro @hbl (And.intro @hbg (And.intro @Int.toNat_natCast @hl'))))))))))))))))))
      refine autoA ?_
      try exact trivial
      exact cut_none _
end
end Go.Sx
