import Derived.Test.YtndchmmclfidgaaDoorGxJ
set_option maxRecDepth 100000
set_option linter.unusedSimpArgs false
set_option linter.unusedVariables false
set_option linter.unnecessarySimpa false
namespace Go.Sx
open Go Go.Lg Go.Proofs

theorem map_bits (n : Nat) (z : BitVec 64) : (bitsL n z).map AV.bool = bitsA n z := by
  unfold bitsL bitsA; rw [List.map_map]; rfl
theorem encBs_bits (n : Nat) (z : BitVec 64) : encBs (bitsL n z) = .list false (bitsA n z) := by
  unfold encBs; rw [map_bits]

section
variable {gl : GL} (har : gl.at' 0 = arityA)
include har
omit har in
theorem bools_same (l : List Bool) (h : l.length < 1000000) : PCall (C gl) 21 [.list false (l.map AV.bool), .list false (l.map AV.bool)] (.bool true) := by
  have := bools_ok (gl := gl) l l h h
  rwa [decide_eq_true rfl] at this
theorem grwins_ok (c : Ct) (hs : ShrtC c) (hk : PCall (C gl) 16 [] (.bool true))
    (hp : validC c = true → ∀ a b, CtV c a b → Stab (tab c a b) ∧ StabR c a b ∧ RW c a b = wonB (tab c a b) ∧ rkeptB c a b (wonB (tab c a b)) = keptB c a b (wonB (tab c a b))) :
    PCall (C gl) 3 [encC c] (.bool true) := by
  refine pcallX (callX_of b3 (by simp [Tryd.ntmps3]) ?_) (by simp only [AllCl, cl_encC, and_true]) (.bool _)
  refine W.of ?_
  rw [Tryd.ntmps3]
  simp only [toK, codeOf, Tryd.f3, go_sem, seval, reduceCtorEq]
  try simp only [go_sem, seval, reduceCtorEq, ctCells]
  repeat (first | refine WK.blockSeq ?_ | refine WK.blockCond ?_ | refine WK.blockReg ?_ | (refine WK.condT ?_ ?_; (focus (simp only [go_sem, seval, reduceCtorEq, ctCells]; done))) | (refine WK.condF ?_ ?_; (focus (simp only [go_sem, seval, reduceCtorEq, ctCells]; done))) | refine WK.seq ?_ | (refine WK.reg ?_; simp only [go_sem, seval, reduceCtorEq, ctCells]) | (refine WK.skip ?_; simp only [go_sem, seval, reduceCtorEq, ctCells]) | (refine WK.ret ?_; simp only [go_sem, seval, reduceCtorEq, ctCells]) | (refine WK.exit ?_; simp only [go_sem, seval, reduceCtorEq, ctCells]) | ((with_reducible refine And.intro ?_ ?_); omega) | omega)
  refine callK_pureL (few_ok (gl := gl) c hs) rfl (by simp only [go_sem, seval, reduceCtorEq, ctCells]) (by simp only [go_sem, seval, reduceCtorEq, ctCells]) ?_
  simp only [go_sem, seval, reduceCtorEq, ctCells]
  cases hf : fewC c with
  | false =>
    try simp only [go_sem, seval, reduceCtorEq]
    repeat (first | refine WK.blockSeq ?_ | refine WK.blockCond ?_ | refine WK.blockReg ?_ | (refine WK.condT ?_ ?_; (focus (simp only [go_sem, seval, reduceCtorEq]; done))) | (refine WK.condF ?_ ?_; (focus (simp only [go_sem, seval, reduceCtorEq]; done))) | refine WK.seq ?_ | (refine WK.reg ?_; simp only [go_sem, seval, reduceCtorEq]) | (refine WK.skip ?_; simp only [go_sem, seval, reduceCtorEq]) | (refine WK.ret ?_; simp only [go_sem, seval, reduceCtorEq]) | (refine WK.exit ?_; simp only [go_sem, seval, reduceCtorEq]) | ((with_reducible refine And.intro ?_ ?_); omega) | omega)
    refine callK_pureL (hk) rfl (by simp only [go_sem, seval, reduceCtorEq]) (by simp only [go_sem, seval, reduceCtorEq]) ?_
    simp only [go_sem, seval, reduceCtorEq]
    try simp only [go_sem, seval, reduceCtorEq]
    repeat (first | refine WK.blockSeq ?_ | refine WK.blockCond ?_ | refine WK.blockReg ?_ | (refine WK.condT ?_ ?_; (focus (simp only [go_sem, seval, reduceCtorEq]; done))) | (refine WK.condF ?_ ?_; (focus (simp only [go_sem, seval, reduceCtorEq]; done))) | refine WK.seq ?_ | (refine WK.reg ?_; simp only [go_sem, seval, reduceCtorEq]) | (refine WK.skip ?_; simp only [go_sem, seval, reduceCtorEq]) | (refine WK.ret ?_; simp only [go_sem, seval, reduceCtorEq]) | (refine WK.exit ?_; simp only [go_sem, seval, reduceCtorEq]) | ((with_reducible refine And.intro ?_ ?_); omega) | omega)
    refine Cut.by' (by first | exact Nat.le_refl _ | (simp only [Sto.get_add, Sto.get_set, Sto.get_del, Sto.get_none, Sto.next_add, Sto.next_set, Sto.next_del, Sto.next_none]; omega)) (by first | exact Nat.le_refl _ | (simp only [Sto.get_add, Sto.get_set, Sto.get_del, Sto.get_none, Sto.next_add, Sto.next_set, Sto.next_del, Sto.next_none]; omega)) (fun i hi => ?_) (fun i o hi ho => ?_)
    · (try simp only [Sto.get_add, Sto.get_set, Sto.get_del, Sto.get_none, Sto.next_add, Sto.next_set, Sto.next_del, Sto.next_none] at hi ⊢); ((repeat' split) <;> first | exact .inl rfl | exact .inr rfl | omega | (simp_all; done))
    · (try simp only [Sto.get_add, Sto.get_set, Sto.get_del, Sto.get_none, Sto.next_add, Sto.next_set, Sto.next_del, Sto.next_none] at hi ho ⊢); ((repeat' split at ho) <;> (repeat' split) <;> first | (exact ⟨ho, .inl ho⟩) | (cases ho; done) | omega | (cases ho; refine ⟨rfl, .inl rfl⟩) | (cases ho; refine ⟨rfl, .inr ?_⟩; simp only [go_sem, seval, reduceCtorEq]; first | done | omega | (refine ⟨?_, ?_⟩ <;> omega)) | (simp_all; done))
  | true =>
    try simp only [go_sem, seval, reduceCtorEq, ctCells]
    repeat (first | refine WK.blockSeq ?_ | refine WK.blockCond ?_ | refine WK.blockReg ?_ | (refine WK.condT ?_ ?_; (focus (simp only [go_sem, seval, reduceCtorEq, ctCells]; done))) | (refine WK.condF ?_ ?_; (focus (simp only [go_sem, seval, reduceCtorEq, ctCells]; done))) | refine WK.seq ?_ | (refine WK.reg ?_; simp only [go_sem, seval, reduceCtorEq, ctCells]) | (refine WK.skip ?_; simp only [go_sem, seval, reduceCtorEq, ctCells]) | (refine WK.ret ?_; simp only [go_sem, seval, reduceCtorEq, ctCells]) | (refine WK.exit ?_; simp only [go_sem, seval, reduceCtorEq, ctCells]) | ((with_reducible refine And.intro ?_ ?_); omega) | omega)
    cases hv : validC c with
    | false =>
      refine callK_pureL (won_no (gl := gl) har c hs hv) rfl (by simp only [go_sem, seval, reduceCtorEq, ctCells]) (by simp only [go_sem, seval, reduceCtorEq, ctCells]) ?_
      simp only [go_sem, seval, reduceCtorEq, ctCells]
      try simp only [go_sem, seval, reduceCtorEq, ctCells]
      repeat (first | refine WK.blockSeq ?_ | refine WK.blockCond ?_ | refine WK.blockReg ?_ | (refine WK.condT ?_ ?_; (focus (simp only [go_sem, seval, reduceCtorEq, ctCells]; done))) | (refine WK.condF ?_ ?_; (focus (simp only [go_sem, seval, reduceCtorEq, ctCells]; done))) | refine WK.seq ?_ | (refine WK.reg ?_; simp only [go_sem, seval, reduceCtorEq, ctCells]) | (refine WK.skip ?_; simp only [go_sem, seval, reduceCtorEq, ctCells]) | (refine WK.ret ?_; simp only [go_sem, seval, reduceCtorEq, ctCells]) | (refine WK.exit ?_; simp only [go_sem, seval, reduceCtorEq, ctCells]) | ((with_reducible refine And.intro ?_ ?_); omega) | omega)
      refine callK_pureL (rwon_no (gl := gl) c hs hv) rfl (by simp only [go_sem, seval, reduceCtorEq, ctCells]) (by simp only [go_sem, seval, reduceCtorEq, ctCells]) ?_
      simp only [go_sem, seval, reduceCtorEq, ctCells]
      try simp only [go_sem, seval, reduceCtorEq, ctCells]
      repeat (first | refine WK.blockSeq ?_ | refine WK.blockCond ?_ | refine WK.blockReg ?_ | (refine WK.condT ?_ ?_; (focus (simp only [go_sem, seval, reduceCtorEq, ctCells]; done))) | (refine WK.condF ?_ ?_; (focus (simp only [go_sem, seval, reduceCtorEq, ctCells]; done))) | refine WK.seq ?_ | (refine WK.reg ?_; simp only [go_sem, seval, reduceCtorEq, ctCells]) | (refine WK.skip ?_; simp only [go_sem, seval, reduceCtorEq, ctCells]) | (refine WK.ret ?_; simp only [go_sem, seval, reduceCtorEq, ctCells]) | (refine WK.exit ?_; simp only [go_sem, seval, reduceCtorEq, ctCells]) | ((with_reducible refine And.intro ?_ ?_); omega) | omega)
      refine callK_pureL (gkept_no (gl := gl) har c hs hv) rfl (by simp only [go_sem, seval, reduceCtorEq, ctCells]) (by simp only [go_sem, seval, reduceCtorEq, ctCells]) ?_
      simp only [go_sem, seval, reduceCtorEq, ctCells]
      try simp only [go_sem, seval, reduceCtorEq, ctCells]
      repeat (first | refine WK.blockSeq ?_ | refine WK.blockCond ?_ | refine WK.blockReg ?_ | (refine WK.condT ?_ ?_; (focus (simp only [go_sem, seval, reduceCtorEq, ctCells]; done))) | (refine WK.condF ?_ ?_; (focus (simp only [go_sem, seval, reduceCtorEq, ctCells]; done))) | refine WK.seq ?_ | (refine WK.reg ?_; simp only [go_sem, seval, reduceCtorEq, ctCells]) | (refine WK.skip ?_; simp only [go_sem, seval, reduceCtorEq, ctCells]) | (refine WK.ret ?_; simp only [go_sem, seval, reduceCtorEq, ctCells]) | (refine WK.exit ?_; simp only [go_sem, seval, reduceCtorEq, ctCells]) | ((with_reducible refine And.intro ?_ ?_); omega) | omega)
      refine callK_pureL (rkept_no (gl := gl) c hs hv) rfl (by simp only [go_sem, seval, reduceCtorEq, ctCells]) (by simp only [go_sem, seval, reduceCtorEq, ctCells]) ?_
      simp only [go_sem, seval, reduceCtorEq, ctCells]
      try simp only [go_sem, seval, reduceCtorEq]
      repeat (first | refine WK.blockSeq ?_ | refine WK.blockCond ?_ | refine WK.blockReg ?_ | (refine WK.condT ?_ ?_; (focus (simp only [go_sem, seval, reduceCtorEq]; done))) | (refine WK.condF ?_ ?_; (focus (simp only [go_sem, seval, reduceCtorEq]; done))) | refine WK.seq ?_ | (refine WK.reg ?_; simp only [go_sem, seval, reduceCtorEq]) | (refine WK.skip ?_; simp only [go_sem, seval, reduceCtorEq]) | (refine WK.ret ?_; simp only [go_sem, seval, reduceCtorEq]) | (refine WK.exit ?_; simp only [go_sem, seval, reduceCtorEq]) | ((with_reducible refine And.intro ?_ ?_); omega) | omega)
      refine callK_pureL (bools_same (gl := gl) [] (by simp)) rfl (by simp only [go_sem, seval, reduceCtorEq]) (by simp only [go_sem, seval, reduceCtorEq]) ?_
      simp only [go_sem, seval, reduceCtorEq]
      refine callK_pureL (hk) rfl (by simp only [go_sem, seval, reduceCtorEq]) (by simp only [go_sem, seval, reduceCtorEq]) ?_
      simp only [go_sem, seval, reduceCtorEq]
      try simp only [go_sem, seval, reduceCtorEq]
      repeat (first | refine WK.blockSeq ?_ | refine WK.blockCond ?_ | refine WK.blockReg ?_ | (refine WK.condT ?_ ?_; (focus (simp only [go_sem, seval, reduceCtorEq]; done))) | (refine WK.condF ?_ ?_; (focus (simp only [go_sem, seval, reduceCtorEq]; done))) | refine WK.seq ?_ | (refine WK.reg ?_; simp only [go_sem, seval, reduceCtorEq]) | (refine WK.skip ?_; simp only [go_sem, seval, reduceCtorEq]) | (refine WK.ret ?_; simp only [go_sem, seval, reduceCtorEq]) | (refine WK.exit ?_; simp only [go_sem, seval, reduceCtorEq]) | ((with_reducible refine And.intro ?_ ?_); omega) | omega)
      refine Cut.by' (by first | exact Nat.le_refl _ | (simp only [Sto.get_add, Sto.get_set, Sto.get_del, Sto.get_none, Sto.next_add, Sto.next_set, Sto.next_del, Sto.next_none]; omega)) (by first | exact Nat.le_refl _ | (simp only [Sto.get_add, Sto.get_set, Sto.get_del, Sto.get_none, Sto.next_add, Sto.next_set, Sto.next_del, Sto.next_none]; omega)) (fun i hi => ?_) (fun i o hi ho => ?_)
      · (try simp only [Sto.get_add, Sto.get_set, Sto.get_del, Sto.get_none, Sto.next_add, Sto.next_set, Sto.next_del, Sto.next_none] at hi ⊢); ((repeat' split) <;> first | exact .inl rfl | exact .inr rfl | omega | (simp_all; done))
      · (try simp only [Sto.get_add, Sto.get_set, Sto.get_del, Sto.get_none, Sto.next_add, Sto.next_set, Sto.next_del, Sto.next_none] at hi ho ⊢); ((repeat' split at ho) <;> (repeat' split) <;> first | (exact ⟨ho, .inl ho⟩) | (cases ho; done) | omega | (cases ho; refine ⟨rfl, .inl rfl⟩) | (cases ho; refine ⟨rfl, .inr ?_⟩; simp only [go_sem, seval, reduceCtorEq]; first | done | omega | (refine ⟨?_, ?_⟩ <;> omega)) | (simp_all; done))
    | true =>
      obtain ⟨a, b, hc⟩ := valid_ct hv
      obtain ⟨h1, h2, h3, h4⟩ := hp hv a b hc
      have p3 := pow2_le (a := a + b) 6 (by have := hc.a3; have := hc.b3; omega)
      refine callK_pureL (won_yes (gl := gl) har c a b hs hv hc.toCtOK h1) rfl (by simp only [go_sem, seval, reduceCtorEq, ctCells, encBs_bits]) (by simp only [go_sem, seval, reduceCtorEq, ctCells, encBs_bits]) ?_
      simp only [go_sem, seval, reduceCtorEq, ctCells, encBs_bits]
      try simp only [go_sem, seval, reduceCtorEq, ctCells]
      repeat (first | refine WK.blockSeq ?_ | refine WK.blockCond ?_ | refine WK.blockReg ?_ | (refine WK.condT ?_ ?_; (focus (simp only [go_sem, seval, reduceCtorEq, ctCells]; done))) | (refine WK.condF ?_ ?_; (focus (simp only [go_sem, seval, reduceCtorEq, ctCells]; done))) | refine WK.seq ?_ | (refine WK.reg ?_; simp only [go_sem, seval, reduceCtorEq, ctCells]) | (refine WK.skip ?_; simp only [go_sem, seval, reduceCtorEq, ctCells]) | (refine WK.ret ?_; simp only [go_sem, seval, reduceCtorEq, ctCells]) | (refine WK.exit ?_; simp only [go_sem, seval, reduceCtorEq, ctCells]) | ((with_reducible refine And.intro ?_ ?_); omega) | omega)
      refine callK_pureL (rwon_yes (gl := gl) c a b _ hs hv hc rfl h2) rfl (by simp only [go_sem, seval, reduceCtorEq, ctCells, encZ_bits, h3]) (by simp only [go_sem, seval, reduceCtorEq, ctCells, encZ_bits, h3]) ?_
      simp only [go_sem, seval, reduceCtorEq, ctCells, encZ_bits, h3]
      try simp only [go_sem, seval, reduceCtorEq, ctCells]
      repeat (first | refine WK.blockSeq ?_ | refine WK.blockCond ?_ | refine WK.blockReg ?_ | (refine WK.condT ?_ ?_; (focus (simp only [go_sem, seval, reduceCtorEq, ctCells]; done))) | (refine WK.condF ?_ ?_; (focus (simp only [go_sem, seval, reduceCtorEq, ctCells]; done))) | refine WK.seq ?_ | (refine WK.reg ?_; simp only [go_sem, seval, reduceCtorEq, ctCells]) | (refine WK.skip ?_; simp only [go_sem, seval, reduceCtorEq, ctCells]) | (refine WK.ret ?_; simp only [go_sem, seval, reduceCtorEq, ctCells]) | (refine WK.exit ?_; simp only [go_sem, seval, reduceCtorEq, ctCells]) | ((with_reducible refine And.intro ?_ ?_); omega) | omega)
      refine callK_pureL (gkept_yes (gl := gl) har c a b hs hv hc.toCtOK h1) rfl (by simp only [go_sem, seval, reduceCtorEq, ctCells]) (by simp only [go_sem, seval, reduceCtorEq, ctCells]) ?_
      simp only [go_sem, seval, reduceCtorEq, ctCells]
      try simp only [go_sem, seval, reduceCtorEq, ctCells]
      repeat (first | refine WK.blockSeq ?_ | refine WK.blockCond ?_ | refine WK.blockReg ?_ | (refine WK.condT ?_ ?_; (focus (simp only [go_sem, seval, reduceCtorEq, ctCells]; done))) | (refine WK.condF ?_ ?_; (focus (simp only [go_sem, seval, reduceCtorEq, ctCells]; done))) | refine WK.seq ?_ | (refine WK.reg ?_; simp only [go_sem, seval, reduceCtorEq, ctCells]) | (refine WK.skip ?_; simp only [go_sem, seval, reduceCtorEq, ctCells]) | (refine WK.ret ?_; simp only [go_sem, seval, reduceCtorEq, ctCells]) | (refine WK.exit ?_; simp only [go_sem, seval, reduceCtorEq, ctCells]) | ((with_reducible refine And.intro ?_ ?_); omega) | omega)
      refine callK_pureL (rkept_yes (gl := gl) c a b _ hs hv hc rfl h2) rfl (by simp only [go_sem, seval, reduceCtorEq, ctCells, h3, h4]) (by simp only [go_sem, seval, reduceCtorEq, ctCells, h3, h4]) ?_
      simp only [go_sem, seval, reduceCtorEq, ctCells, h3, h4]
      try simp only [go_sem, seval, reduceCtorEq]
      repeat (first | refine WK.blockSeq ?_ | refine WK.blockCond ?_ | refine WK.blockReg ?_ | (refine WK.condT ?_ ?_; (focus (simp only [go_sem, seval, reduceCtorEq]; done))) | (refine WK.condF ?_ ?_; (focus (simp only [go_sem, seval, reduceCtorEq]; done))) | refine WK.seq ?_ | (refine WK.reg ?_; simp only [go_sem, seval, reduceCtorEq]) | (refine WK.skip ?_; simp only [go_sem, seval, reduceCtorEq]) | (refine WK.ret ?_; simp only [go_sem, seval, reduceCtorEq]) | (refine WK.exit ?_; simp only [go_sem, seval, reduceCtorEq]) | ((with_reducible refine And.intro ?_ ?_); omega) | omega)
      refine callK_pureL (bools_same (gl := gl) (bitsL (2 ^ (a + b)) (wonB (tab c a b))) (by simp [bitsL]; omega)) rfl (by simp only [go_sem, seval, reduceCtorEq, map_bits]) (by simp only [go_sem, seval, reduceCtorEq, map_bits]) ?_
      simp only [go_sem, seval, reduceCtorEq, map_bits]
      cases keptB c a b (wonB (tab c a b)) with
      | true =>
        try simp only [go_sem, seval, reduceCtorEq]
        repeat (first | refine WK.blockSeq ?_ | refine WK.blockCond ?_ | refine WK.blockReg ?_ | (refine WK.condT ?_ ?_; (focus (simp only [go_sem, seval, reduceCtorEq]; done))) | (refine WK.condF ?_ ?_; (focus (simp only [go_sem, seval, reduceCtorEq]; done))) | refine WK.seq ?_ | (refine WK.reg ?_; simp only [go_sem, seval, reduceCtorEq]) | (refine WK.skip ?_; simp only [go_sem, seval, reduceCtorEq]) | (refine WK.ret ?_; simp only [go_sem, seval, reduceCtorEq]) | (refine WK.exit ?_; simp only [go_sem, seval, reduceCtorEq]) | ((with_reducible refine And.intro ?_ ?_); omega) | omega)
        refine callK_pureL (hk) rfl (by simp only [go_sem, seval, reduceCtorEq]) (by simp only [go_sem, seval, reduceCtorEq]) ?_
        simp only [go_sem, seval, reduceCtorEq]
        try simp only [go_sem, seval, reduceCtorEq]
        repeat (first | refine WK.blockSeq ?_ | refine WK.blockCond ?_ | refine WK.blockReg ?_ | (refine WK.condT ?_ ?_; (focus (simp only [go_sem, seval, reduceCtorEq]; done))) | (refine WK.condF ?_ ?_; (focus (simp only [go_sem, seval, reduceCtorEq]; done))) | refine WK.seq ?_ | (refine WK.reg ?_; simp only [go_sem, seval, reduceCtorEq]) | (refine WK.skip ?_; simp only [go_sem, seval, reduceCtorEq]) | (refine WK.ret ?_; simp only [go_sem, seval, reduceCtorEq]) | (refine WK.exit ?_; simp only [go_sem, seval, reduceCtorEq]) | ((with_reducible refine And.intro ?_ ?_); omega) | omega)
        refine Cut.by' (by first | exact Nat.le_refl _ | (simp only [Sto.get_add, Sto.get_set, Sto.get_del, Sto.get_none, Sto.next_add, Sto.next_set, Sto.next_del, Sto.next_none]; omega)) (by first | exact Nat.le_refl _ | (simp only [Sto.get_add, Sto.get_set, Sto.get_del, Sto.get_none, Sto.next_add, Sto.next_set, Sto.next_del, Sto.next_none]; omega)) (fun i hi => ?_) (fun i o hi ho => ?_)
        · (try simp only [Sto.get_add, Sto.get_set, Sto.get_del, Sto.get_none, Sto.next_add, Sto.next_set, Sto.next_del, Sto.next_none] at hi ⊢); ((repeat' split) <;> first | exact .inl rfl | exact .inr rfl | omega | (simp_all; done))
        · (try simp only [Sto.get_add, Sto.get_set, Sto.get_del, Sto.get_none, Sto.next_add, Sto.next_set, Sto.next_del, Sto.next_none] at hi ho ⊢); ((repeat' split at ho) <;> (repeat' split) <;> first | (exact ⟨ho, .inl ho⟩) | (cases ho; done) | omega | (cases ho; refine ⟨rfl, .inl rfl⟩) | (cases ho; refine ⟨rfl, .inr ?_⟩; simp only [go_sem, seval, reduceCtorEq]; first | done | omega | (refine ⟨?_, ?_⟩ <;> omega)) | (simp_all; done))
      | false =>
        try simp only [go_sem, seval, reduceCtorEq]
        repeat (first | refine WK.blockSeq ?_ | refine WK.blockCond ?_ | refine WK.blockReg ?_ | (refine WK.condT ?_ ?_; (focus (simp only [go_sem, seval, reduceCtorEq]; done))) | (refine WK.condF ?_ ?_; (focus (simp only [go_sem, seval, reduceCtorEq]; done))) | refine WK.seq ?_ | (refine WK.reg ?_; simp only [go_sem, seval, reduceCtorEq]) | (refine WK.skip ?_; simp only [go_sem, seval, reduceCtorEq]) | (refine WK.ret ?_; simp only [go_sem, seval, reduceCtorEq]) | (refine WK.exit ?_; simp only [go_sem, seval, reduceCtorEq]) | ((with_reducible refine And.intro ?_ ?_); omega) | omega)
        refine callK_pureL (hk) rfl (by simp only [go_sem, seval, reduceCtorEq]) (by simp only [go_sem, seval, reduceCtorEq]) ?_
        simp only [go_sem, seval, reduceCtorEq]
        try simp only [go_sem, seval, reduceCtorEq]
        repeat (first | refine WK.blockSeq ?_ | refine WK.blockCond ?_ | refine WK.blockReg ?_ | (refine WK.condT ?_ ?_; (focus (simp only [go_sem, seval, reduceCtorEq]; done))) | (refine WK.condF ?_ ?_; (focus (simp only [go_sem, seval, reduceCtorEq]; done))) | refine WK.seq ?_ | (refine WK.reg ?_; simp only [go_sem, seval, reduceCtorEq]) | (refine WK.skip ?_; simp only [go_sem, seval, reduceCtorEq]) | (refine WK.ret ?_; simp only [go_sem, seval, reduceCtorEq]) | (refine WK.exit ?_; simp only [go_sem, seval, reduceCtorEq]) | ((with_reducible refine And.intro ?_ ?_); omega) | omega)
        refine Cut.by' (by first | exact Nat.le_refl _ | (simp only [Sto.get_add, Sto.get_set, Sto.get_del, Sto.get_none, Sto.next_add, Sto.next_set, Sto.next_del, Sto.next_none]; omega)) (by first | exact Nat.le_refl _ | (simp only [Sto.get_add, Sto.get_set, Sto.get_del, Sto.get_none, Sto.next_add, Sto.next_set, Sto.next_del, Sto.next_none]; omega)) (fun i hi => ?_) (fun i o hi ho => ?_)
        · (try simp only [Sto.get_add, Sto.get_set, Sto.get_del, Sto.get_none, Sto.next_add, Sto.next_set, Sto.next_del, Sto.next_none] at hi ⊢); ((repeat' split) <;> first | exact .inl rfl | exact .inr rfl | omega | (simp_all; done))
        · (try simp only [Sto.get_add, Sto.get_set, Sto.get_del, Sto.get_none, Sto.next_add, Sto.next_set, Sto.next_del, Sto.next_none] at hi ho ⊢); ((repeat' split at ho) <;> (repeat' split) <;> first | (exact ⟨ho, .inl ho⟩) | (cases ho; done) | omega | (cases ho; refine ⟨rfl, .inl rfl⟩) | (cases ho; refine ⟨rfl, .inr ?_⟩; simp only [go_sem, seval, reduceCtorEq]; first | done | omega | (refine ⟨?_, ?_⟩ <;> omega)) | (simp_all; done))
end
end Go.Sx
