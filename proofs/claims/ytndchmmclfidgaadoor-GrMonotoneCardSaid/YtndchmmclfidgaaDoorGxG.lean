import Derived.Test.YtndchmmclfidgaaDoorGxF
import Derived.Test.YtndchmmclfidgaaDoorLgV
set_option maxRecDepth 100000
set_option linter.unusedSimpArgs false
set_option linter.unusedVariables false
set_option linter.unnecessarySimpa false
namespace Go.Sx
open Go Go.Lg Go.Proofs
theorem b187 {gl : GL} : Body (C gl).P 187 Tryd.f187 (codeOf Tryd.f187) := ⟨Tryd.func187, by kernel_rfl, by kernel_rfl⟩

def largeB (c : Ct) (a b : Nat) (z : BitVec 64) (j : Fm) (y : BitVec 64) (f : Fm) (x : BitVec 64) (k : Nat) : Bool :=
  (holdsF k k j && beforeB c a b k z) || (beforeB c a b k y || (!holdsF k k f && beforeB c a b k x))
/-- One step of the reference's greatest fixed point. -/
def rXs (c : Ct) (a b : Nat) (z : BitVec 64) (j : Fm) (y : BitVec 64) (f : Fm) (x : BitVec 64) : BitVec 64 := setB (largeB c a b z j y f x) (2 ^ (a + b))
theorem low_setB (p : Nat → Bool) (n : Nat) : Low n (setB p n) := fun i hi => by
  by_cases h : i < 64
  · rw [setB_get p n i h]; simp; omega
  · exact BitVec.getLsbD_of_ge _ _ (by omega)
theorem low_allB {n : Nat} (hn : n ≤ 64) : Low n (allB n) := fun i hi => by
  by_cases h : i < 64
  · rw [allB_get n i hn h]; simp; omega
  · exact BitVec.getLsbD_of_ge _ _ (by omega)
theorem setB_list (p : Nat → Bool) {n : Nat} (hn : n ≤ 64) : (List.range n).map (fun l => AV.bool (p l)) = (List.range n).map fun l => AV.bool ((setB p n).getLsbD l) :=
  List.map_congr_left fun l hl => by
    have := List.mem_range.1 hl
    rw [setB_get p n l (by omega)]; simp [this]

section
variable {gl : GL}
theorem largest_ok (c : Ct) (a b n : Nat) (z y : BitVec 64) (j f : Fm) (r : BitVec 64) (hc : CtV c a b) (hj : WfT j) (hf : WfT f) (hn : n = 2 ^ (a + b))
    (hr : fixR (rXs c a b z j y f) (fun _ (u : Unit) => u) 67 (allB n) () = some (r, ())) :
    PCall (C gl) 187 [encC c, encZ n z, encF j, encZ n y, encF f] (encZ n r) := by
  refine pcallX (callX_of b187 (by simp [Tryd.ntmps187]) ?_) (by simp only [AllCl, cl_encC, cl_encF, cl_encZ, and_true]) (by simp only [cl_encZ])
  have p3 := pow2_le (a := a + b) 6 (by have := hc.a3; have := hc.b3; omega)
  rw [← hn] at p3
  have hB := fun (k : Nat) (hk : k < n) (w : BitVec 64) => before_ok (gl := gl) c a b k n w hc.toCtOK hc.tse hc.tss hn hk
  refine W.of ?_
  rw [Tryd.ntmps187]
  simp only [toK, codeOf, Tryd.f187, go_sem, seval, reduceCtorEq]
  try simp only [go_sem, seval, reduceCtorEq, encF_eq, encZ_eq, List.length_map, List.length_range]
  repeat (first | refine WK.blockSeq ?_ | refine WK.blockCond ?_ | refine WK.blockReg ?_ | (refine WK.condT ?_ ?_; (focus (simp only [go_sem, seval, reduceCtorEq, encF_eq, encZ_eq, List.length_map, List.length_range]; done))) | (refine WK.condF ?_ ?_; (focus (simp only [go_sem, seval, reduceCtorEq, encF_eq, encZ_eq, List.length_map, List.length_range]; done))) | refine WK.seq ?_ | (refine WK.reg ?_; simp only [go_sem, seval, reduceCtorEq, encF_eq, encZ_eq, List.length_map, List.length_range]) | (refine WK.skip ?_; simp only [go_sem, seval, reduceCtorEq, encF_eq, encZ_eq, List.length_map, List.length_range]) | (refine WK.ret ?_; simp only [go_sem, seval, reduceCtorEq, encF_eq, encZ_eq, List.length_map, List.length_range]) | (refine WK.exit ?_; simp only [go_sem, seval, reduceCtorEq, encF_eq, encZ_eq, List.length_map, List.length_range]) | ((with_reducible refine And.intro ?_ ?_); omega) | omega)
  refine callK_pureL (full_ok (gl := gl) n (by omega)) rfl (by simp only [go_sem, seval, reduceCtorEq]) (by simp only [go_sem, seval, reduceCtorEq]) ?_
  simp only [go_sem, seval, reduceCtorEq]
  try simp only [go_sem, seval, reduceCtorEq]
  repeat (first | refine WK.blockSeq ?_ | refine WK.blockCond ?_ | refine WK.blockReg ?_ | (refine WK.condT ?_ ?_; (focus (simp only [go_sem, seval, reduceCtorEq]; done))) | (refine WK.condF ?_ ?_; (focus (simp only [go_sem, seval, reduceCtorEq]; done))) | refine WK.seq ?_ | (refine WK.reg ?_; simp only [go_sem, seval, reduceCtorEq]) | (refine WK.skip ?_; simp only [go_sem, seval, reduceCtorEq]) | (refine WK.ret ?_; simp only [go_sem, seval, reduceCtorEq]) | (refine WK.exit ?_; simp only [go_sem, seval, reduceCtorEq]) | ((with_reducible refine And.intro ?_ ?_); omega) | omega)
  refine WK.block ?_
  refine WK.loopX [1, 3, 5, 7, 9] [11] (fun s : Nat × BitVec 64 => [encZ n s.2]) (fun s => ((Sto.none.add (.box (ctCells c))).add (.box [.int .i64 j.op, .int .i64 j.var, .list false (encFs j.args)])).add (.box [.int .i64 f.op, .int .i64 f.var, .list false (encFs f.args)])) (fun s => fixR (rXs c a b z j y f) (fun _ (u : Unit) => u) s.1 s.2 () = some (r, ()) ∧ Low n s.2) (fun s => s.1) (67, allB n) (by decide) ⟨hr, low_allB p3⟩ (by simp only [go_sem, seval, reduceCtorEq]) (by rfl) ?_
  rintro ⟨m, x⟩ ⟨hI, hlow⟩
  simp only [go_sem, seval, reduceCtorEq]
  simp only at hI hlow
  cases m with
  | zero => simp [fixR] at hI
  | succ m =>
  simp only [fixR] at hI
  refine WK.block ?_
  try simp only [go_sem, seval, reduceCtorEq, encZ_eq, List.length_map, List.length_range]
  repeat (first | refine WK.blockSeq ?_ | refine WK.blockCond ?_ | refine WK.blockReg ?_ | (refine WK.condT ?_ ?_; (focus (simp only [go_sem, seval, reduceCtorEq, encZ_eq, List.length_map, List.length_range]; done))) | (refine WK.condF ?_ ?_; (focus (simp only [go_sem, seval, reduceCtorEq, encZ_eq, List.length_map, List.length_range]; done))) | refine WK.seq ?_ | (refine WK.reg ?_; simp only [go_sem, seval, reduceCtorEq, encZ_eq, List.length_map, List.length_range]) | (refine WK.skip ?_; simp only [go_sem, seval, reduceCtorEq, encZ_eq, List.length_map, List.length_range]) | (refine WK.ret ?_; simp only [go_sem, seval, reduceCtorEq, encZ_eq, List.length_map, List.length_range]) | (refine WK.exit ?_; simp only [go_sem, seval, reduceCtorEq, encZ_eq, List.length_map, List.length_range]) | ((with_reducible refine And.intro ?_ ?_); omega) | omega)
  refine WK.rangeX (n) [1, 3, 5, 7, 9, 11, 12] [] (fun i => []) (fun i => (((Sto.none.add (.box (ctCells c))).add (.box [.int .i64 j.op, .int .i64 j.var, .list false (encFs j.args)])).add (.box [.int .i64 f.op, .int .i64 f.var, .list false (encFs f.args)])).add (.row 1 ((List.range i).map (fun l => .bool (largeB c a b z j y f x l)) ++ List.replicate (n - i) (.bool false)) false)) (by omega) (by decide) (by simp only [go_sem, seval, reduceCtorEq, encZ_eq, List.length_map, List.length_range, map_range0, Nat.sub_zero, List.length_append, List.length_map, List.length_range, List.length_replicate]) (by simp only [go_sem, seval, reduceCtorEq, encZ_eq, List.length_map, List.length_range, map_range0, Nat.sub_zero, List.length_append, List.length_map, List.length_range, List.length_replicate]) (by simp only [go_sem, seval, reduceCtorEq, encZ_eq, List.length_map, List.length_range, map_range0, Nat.sub_zero, List.length_append, List.length_map, List.length_range, List.length_replicate, List.take_zero]) (by first | rfl | (simp only [go_sem, seval, reduceCtorEq, encZ_eq, List.length_map, List.length_range, map_range0, Nat.sub_zero, List.length_append, List.length_map, List.length_range, List.length_replicate]; done) | (refine Sto.ext' (by simp only [go_sem, seval, reduceCtorEq, encZ_eq, List.length_map, List.length_range, map_range0, Nat.sub_zero, List.length_append, List.length_map, List.length_range, List.length_replicate]) (fun i => ?_); simp only [go_sem, seval, reduceCtorEq, encZ_eq, List.length_map, List.length_range, map_range0, Nat.sub_zero, List.length_append, List.length_map, List.length_range, List.length_replicate]; repeat' split; all_goals (first | rfl | omega | simp_all))) ?_ ?_
  · intro i hi
    have e : ((List.range i).map (fun l => AV.bool (largeB c a b z j y f x l)) ++ List.replicate (n - i) (AV.bool false)).length = n := by simp; omega
    have e2 := set_fill (fun l => AV.bool (largeB c a b z j y f x l)) (AV.bool false) n i hi
    rw [List.range_succ] at e2
    simp only [go_sem, seval, reduceCtorEq, encZ_eq, List.length_map, List.length_range]
    try simp only [go_sem, seval, reduceCtorEq, encZ_eq, List.length_map, List.length_range]
    repeat (first | refine WK.blockSeq ?_ | refine WK.blockCond ?_ | refine WK.blockReg ?_ | (refine WK.condT ?_ ?_; (focus (simp only [go_sem, seval, reduceCtorEq, encZ_eq, List.length_map, List.length_range]; done))) | (refine WK.condF ?_ ?_; (focus (simp only [go_sem, seval, reduceCtorEq, encZ_eq, List.length_map, List.length_range]; done))) | refine WK.seq ?_ | (refine WK.reg ?_; simp only [go_sem, seval, reduceCtorEq, encZ_eq, List.length_map, List.length_range]) | (refine WK.skip ?_; simp only [go_sem, seval, reduceCtorEq, encZ_eq, List.length_map, List.length_range]) | (refine WK.ret ?_; simp only [go_sem, seval, reduceCtorEq, encZ_eq, List.length_map, List.length_range]) | (refine WK.exit ?_; simp only [go_sem, seval, reduceCtorEq, encZ_eq, List.length_map, List.length_range]) | ((with_reducible refine And.intro ?_ ?_); omega) | omega)
    have hJ := true_ok (gl := gl) j hj i i
    have hF := true_ok (gl := gl) f hf i i
    have h1 := hB i hi z
    have h2 := hB i hi y
    have h3 := hB i hi x
    have hL : largeB c a b z j y f x i = ((holdsF i i j && beforeB c a b i z) || (beforeB c a b i y || (!holdsF i i f && beforeB c a b i x))) := rfl
    rw [hL] at e2
    generalize holdsF (i : Int) (i : Int) j = vJ at *
    generalize holdsF (i : Int) (i : Int) f = vF at *
    generalize beforeB c a b i z = v1 at *
    generalize beforeB c a b i y = v2 at *
    generalize beforeB c a b i x = v3 at *
    clear hL
    cases vJ with
    | true =>
      cases v1 with
      | true =>
        refine callK_pureL (hJ) rfl (by simp only [go_sem, seval, reduceCtorEq, encZ_eq, List.length_map, List.length_range, encF_eq]) (by simp only [go_sem, seval, reduceCtorEq, encZ_eq, List.length_map, List.length_range, encF_eq]) ?_
        simp only [go_sem, seval, reduceCtorEq, encZ_eq, List.length_map, List.length_range, encF_eq]
        refine callK_pureL (h1) rfl (by simp only [go_sem, seval, reduceCtorEq, encZ_eq, List.length_map, List.length_range]) (by simp only [go_sem, seval, reduceCtorEq, encZ_eq, List.length_map, List.length_range]) ?_
        simp only [go_sem, seval, reduceCtorEq, encZ_eq, List.length_map, List.length_range]
        try simp only [go_sem, seval, reduceCtorEq, encZ_eq, List.length_map, List.length_range]
        repeat (first | refine WK.blockSeq ?_ | refine WK.blockCond ?_ | refine WK.blockReg ?_ | (refine WK.condT ?_ ?_; (focus (simp only [go_sem, seval, reduceCtorEq, encZ_eq, List.length_map, List.length_range]; done))) | (refine WK.condF ?_ ?_; (focus (simp only [go_sem, seval, reduceCtorEq, encZ_eq, List.length_map, List.length_range]; done))) | refine WK.seq ?_ | (refine WK.reg ?_; simp only [go_sem, seval, reduceCtorEq, encZ_eq, List.length_map, List.length_range]) | (refine WK.skip ?_; simp only [go_sem, seval, reduceCtorEq, encZ_eq, List.length_map, List.length_range]) | (refine WK.ret ?_; simp only [go_sem, seval, reduceCtorEq, encZ_eq, List.length_map, List.length_range]) | (refine WK.exit ?_; simp only [go_sem, seval, reduceCtorEq, encZ_eq, List.length_map, List.length_range]) | ((with_reducible refine And.intro ?_ ?_); omega) | omega)
        simp only [Bool.true_and, Bool.false_and, Bool.true_or, Bool.false_or, Bool.not_true, Bool.not_false, Bool.and_true, Bool.or_false] at e2
        try refine ⟨by rw [e]; exact hi, ?_⟩
        try rw [e2]
        refine Cut.by' (by first | exact Nat.le_refl _ | (simp only [Sto.get_add, Sto.get_set, Sto.get_del, Sto.get_none, Sto.next_add, Sto.next_set, Sto.next_del, Sto.next_none]; omega)) (by first | exact Nat.le_refl _ | (simp only [Sto.get_add, Sto.get_set, Sto.get_del, Sto.get_none, Sto.next_add, Sto.next_set, Sto.next_del, Sto.next_none]; omega)) (fun i hi => ?_) (fun i o hi ho => ?_)
        · (try simp only [Sto.get_add, Sto.get_set, Sto.get_del, Sto.get_none, Sto.next_add, Sto.next_set, Sto.next_del, Sto.next_none] at hi ⊢); ((repeat' split) <;> first | exact .inl rfl | exact .inr rfl | omega | (simp_all; done))
        · (try simp only [Sto.get_add, Sto.get_set, Sto.get_del, Sto.get_none, Sto.next_add, Sto.next_set, Sto.next_del, Sto.next_none] at hi ho ⊢); ((repeat' split at ho) <;> (repeat' split) <;> first | (exact ⟨ho, .inl ho⟩) | (cases ho; done) | omega | (cases ho; refine ⟨rfl, .inl rfl⟩) | (cases ho; refine ⟨rfl, .inr ?_⟩; simp only [go_sem, seval, reduceCtorEq, encZ_eq, List.length_map, List.length_range]; first | done | omega | (refine ⟨?_, ?_⟩ <;> omega)) | (simp_all; done))
      | false =>
        refine callK_pureL (hJ) rfl (by simp only [go_sem, seval, reduceCtorEq, encZ_eq, List.length_map, List.length_range, encF_eq]) (by simp only [go_sem, seval, reduceCtorEq, encZ_eq, List.length_map, List.length_range, encF_eq]) ?_
        simp only [go_sem, seval, reduceCtorEq, encZ_eq, List.length_map, List.length_range, encF_eq]
        refine callK_pureL (h1) rfl (by simp only [go_sem, seval, reduceCtorEq, encZ_eq, List.length_map, List.length_range]) (by simp only [go_sem, seval, reduceCtorEq, encZ_eq, List.length_map, List.length_range]) ?_
        simp only [go_sem, seval, reduceCtorEq, encZ_eq, List.length_map, List.length_range]
        cases v2 with
        | true =>
          refine callK_pureL (h2) rfl (by simp only [go_sem, seval, reduceCtorEq, encZ_eq, List.length_map, List.length_range]) (by simp only [go_sem, seval, reduceCtorEq, encZ_eq, List.length_map, List.length_range]) ?_
          simp only [go_sem, seval, reduceCtorEq, encZ_eq, List.length_map, List.length_range]
          try simp only [go_sem, seval, reduceCtorEq, encZ_eq, List.length_map, List.length_range]
          repeat (first | refine WK.blockSeq ?_ | refine WK.blockCond ?_ | refine WK.blockReg ?_ | (refine WK.condT ?_ ?_; (focus (simp only [go_sem, seval, reduceCtorEq, encZ_eq, List.length_map, List.length_range]; done))) | (refine WK.condF ?_ ?_; (focus (simp only [go_sem, seval, reduceCtorEq, encZ_eq, List.length_map, List.length_range]; done))) | refine WK.seq ?_ | (refine WK.reg ?_; simp only [go_sem, seval, reduceCtorEq, encZ_eq, List.length_map, List.length_range]) | (refine WK.skip ?_; simp only [go_sem, seval, reduceCtorEq, encZ_eq, List.length_map, List.length_range]) | (refine WK.ret ?_; simp only [go_sem, seval, reduceCtorEq, encZ_eq, List.length_map, List.length_range]) | (refine WK.exit ?_; simp only [go_sem, seval, reduceCtorEq, encZ_eq, List.length_map, List.length_range]) | ((with_reducible refine And.intro ?_ ?_); omega) | omega)
          simp only [Bool.true_and, Bool.false_and, Bool.true_or, Bool.false_or, Bool.not_true, Bool.not_false, Bool.and_true, Bool.or_false] at e2
          try refine ⟨by rw [e]; exact hi, ?_⟩
          try rw [e2]
          refine Cut.by' (by first | exact Nat.le_refl _ | (simp only [Sto.get_add, Sto.get_set, Sto.get_del, Sto.get_none, Sto.next_add, Sto.next_set, Sto.next_del, Sto.next_none]; omega)) (by first | exact Nat.le_refl _ | (simp only [Sto.get_add, Sto.get_set, Sto.get_del, Sto.get_none, Sto.next_add, Sto.next_set, Sto.next_del, Sto.next_none]; omega)) (fun i hi => ?_) (fun i o hi ho => ?_)
          · (try simp only [Sto.get_add, Sto.get_set, Sto.get_del, Sto.get_none, Sto.next_add, Sto.next_set, Sto.next_del, Sto.next_none] at hi ⊢); ((repeat' split) <;> first | exact .inl rfl | exact .inr rfl | omega | (simp_all; done))
          · (try simp only [Sto.get_add, Sto.get_set, Sto.get_del, Sto.get_none, Sto.next_add, Sto.next_set, Sto.next_del, Sto.next_none] at hi ho ⊢); ((repeat' split at ho) <;> (repeat' split) <;> first | (exact ⟨ho, .inl ho⟩) | (cases ho; done) | omega | (cases ho; refine ⟨rfl, .inl rfl⟩) | (cases ho; refine ⟨rfl, .inr ?_⟩; simp only [go_sem, seval, reduceCtorEq, encZ_eq, List.length_map, List.length_range]; first | done | omega | (refine ⟨?_, ?_⟩ <;> omega)) | (simp_all; done))
        | false =>
          refine callK_pureL (h2) rfl (by simp only [go_sem, seval, reduceCtorEq, encZ_eq, List.length_map, List.length_range]) (by simp only [go_sem, seval, reduceCtorEq, encZ_eq, List.length_map, List.length_range]) ?_
          simp only [go_sem, seval, reduceCtorEq, encZ_eq, List.length_map, List.length_range]
          cases vF with
          | true =>
            refine callK_pureL (hF) rfl (by simp only [go_sem, seval, reduceCtorEq, encZ_eq, List.length_map, List.length_range, encF_eq]) (by simp only [go_sem, seval, reduceCtorEq, encZ_eq, List.length_map, List.length_range, encF_eq]) ?_
            simp only [go_sem, seval, reduceCtorEq, encZ_eq, List.length_map, List.length_range, encF_eq]
            try simp only [go_sem, seval, reduceCtorEq, encZ_eq, List.length_map, List.length_range]
            repeat (first | refine WK.blockSeq ?_ | refine WK.blockCond ?_ | refine WK.blockReg ?_ | (refine WK.condT ?_ ?_; (focus (simp only [go_sem, seval, reduceCtorEq, encZ_eq, List.length_map, List.length_range]; done))) | (refine WK.condF ?_ ?_; (focus (simp only [go_sem, seval, reduceCtorEq, encZ_eq, List.length_map, List.length_range]; done))) | refine WK.seq ?_ | (refine WK.reg ?_; simp only [go_sem, seval, reduceCtorEq, encZ_eq, List.length_map, List.length_range]) | (refine WK.skip ?_; simp only [go_sem, seval, reduceCtorEq, encZ_eq, List.length_map, List.length_range]) | (refine WK.ret ?_; simp only [go_sem, seval, reduceCtorEq, encZ_eq, List.length_map, List.length_range]) | (refine WK.exit ?_; simp only [go_sem, seval, reduceCtorEq, encZ_eq, List.length_map, List.length_range]) | ((with_reducible refine And.intro ?_ ?_); omega) | omega)
            simp only [Bool.true_and, Bool.false_and, Bool.true_or, Bool.false_or, Bool.not_true, Bool.not_false, Bool.and_true, Bool.or_false] at e2
            try refine ⟨by rw [e]; exact hi, ?_⟩
            try rw [e2]
            refine Cut.by' (by first | exact Nat.le_refl _ | (simp only [Sto.get_add, Sto.get_set, Sto.get_del, Sto.get_none, Sto.next_add, Sto.next_set, Sto.next_del, Sto.next_none]; omega)) (by first | exact Nat.le_refl _ | (simp only [Sto.get_add, Sto.get_set, Sto.get_del, Sto.get_none, Sto.next_add, Sto.next_set, Sto.next_del, Sto.next_none]; omega)) (fun i hi => ?_) (fun i o hi ho => ?_)
            · (try simp only [Sto.get_add, Sto.get_set, Sto.get_del, Sto.get_none, Sto.next_add, Sto.next_set, Sto.next_del, Sto.next_none] at hi ⊢); ((repeat' split) <;> first | exact .inl rfl | exact .inr rfl | omega | (simp_all; done))
            · (try simp only [Sto.get_add, Sto.get_set, Sto.get_del, Sto.get_none, Sto.next_add, Sto.next_set, Sto.next_del, Sto.next_none] at hi ho ⊢); ((repeat' split at ho) <;> (repeat' split) <;> first | (exact ⟨ho, .inl ho⟩) | (cases ho; done) | omega | (cases ho; refine ⟨rfl, .inl rfl⟩) | (cases ho; refine ⟨rfl, .inr ?_⟩; simp only [go_sem, seval, reduceCtorEq, encZ_eq, List.length_map, List.length_range]; first | done | omega | (refine ⟨?_, ?_⟩ <;> omega)) | (simp_all; done))
          | false =>
            refine callK_pureL (hF) rfl (by simp only [go_sem, seval, reduceCtorEq, encZ_eq, List.length_map, List.length_range, encF_eq]) (by simp only [go_sem, seval, reduceCtorEq, encZ_eq, List.length_map, List.length_range, encF_eq]) ?_
            simp only [go_sem, seval, reduceCtorEq, encZ_eq, List.length_map, List.length_range, encF_eq]
            refine callK_pureL (h3) rfl (by simp only [go_sem, seval, reduceCtorEq, encZ_eq, List.length_map, List.length_range]) (by simp only [go_sem, seval, reduceCtorEq, encZ_eq, List.length_map, List.length_range]) ?_
            simp only [go_sem, seval, reduceCtorEq, encZ_eq, List.length_map, List.length_range]
            try simp only [go_sem, seval, reduceCtorEq, encZ_eq, List.length_map, List.length_range]
            repeat (first | refine WK.blockSeq ?_ | refine WK.blockCond ?_ | refine WK.blockReg ?_ | (refine WK.condT ?_ ?_; (focus (simp only [go_sem, seval, reduceCtorEq, encZ_eq, List.length_map, List.length_range]; done))) | (refine WK.condF ?_ ?_; (focus (simp only [go_sem, seval, reduceCtorEq, encZ_eq, List.length_map, List.length_range]; done))) | refine WK.seq ?_ | (refine WK.reg ?_; simp only [go_sem, seval, reduceCtorEq, encZ_eq, List.length_map, List.length_range]) | (refine WK.skip ?_; simp only [go_sem, seval, reduceCtorEq, encZ_eq, List.length_map, List.length_range]) | (refine WK.ret ?_; simp only [go_sem, seval, reduceCtorEq, encZ_eq, List.length_map, List.length_range]) | (refine WK.exit ?_; simp only [go_sem, seval, reduceCtorEq, encZ_eq, List.length_map, List.length_range]) | ((with_reducible refine And.intro ?_ ?_); omega) | omega)
            simp only [Bool.true_and, Bool.false_and, Bool.true_or, Bool.false_or, Bool.not_true, Bool.not_false, Bool.and_true, Bool.or_false] at e2
            try refine ⟨by rw [e]; exact hi, ?_⟩
            try rw [e2]
            refine Cut.by' (by first | exact Nat.le_refl _ | (simp only [Sto.get_add, Sto.get_set, Sto.get_del, Sto.get_none, Sto.next_add, Sto.next_set, Sto.next_del, Sto.next_none]; omega)) (by first | exact Nat.le_refl _ | (simp only [Sto.get_add, Sto.get_set, Sto.get_del, Sto.get_none, Sto.next_add, Sto.next_set, Sto.next_del, Sto.next_none]; omega)) (fun i hi => ?_) (fun i o hi ho => ?_)
            · (try simp only [Sto.get_add, Sto.get_set, Sto.get_del, Sto.get_none, Sto.next_add, Sto.next_set, Sto.next_del, Sto.next_none] at hi ⊢); ((repeat' split) <;> first | exact .inl rfl | exact .inr rfl | omega | (simp_all; done))
            · (try simp only [Sto.get_add, Sto.get_set, Sto.get_del, Sto.get_none, Sto.next_add, Sto.next_set, Sto.next_del, Sto.next_none] at hi ho ⊢); ((repeat' split at ho) <;> (repeat' split) <;> first | (exact ⟨ho, .inl ho⟩) | (cases ho; done) | omega | (cases ho; refine ⟨rfl, .inl rfl⟩) | (cases ho; refine ⟨rfl, .inr ?_⟩; simp only [go_sem, seval, reduceCtorEq, encZ_eq, List.length_map, List.length_range]; first | done | omega | (refine ⟨?_, ?_⟩ <;> omega)) | (simp_all; done))
    | false =>
      refine callK_pureL (hJ) rfl (by simp only [go_sem, seval, reduceCtorEq, encZ_eq, List.length_map, List.length_range, encF_eq]) (by simp only [go_sem, seval, reduceCtorEq, encZ_eq, List.length_map, List.length_range, encF_eq]) ?_
      simp only [go_sem, seval, reduceCtorEq, encZ_eq, List.length_map, List.length_range, encF_eq]
      cases v2 with
      | true =>
        refine callK_pureL (h2) rfl (by simp only [go_sem, seval, reduceCtorEq, encZ_eq, List.length_map, List.length_range]) (by simp only [go_sem, seval, reduceCtorEq, encZ_eq, List.length_map, List.length_range]) ?_
        simp only [go_sem, seval, reduceCtorEq, encZ_eq, List.length_map, List.length_range]
        try simp only [go_sem, seval, reduceCtorEq, encZ_eq, List.length_map, List.length_range]
        repeat (first | refine WK.blockSeq ?_ | refine WK.blockCond ?_ | refine WK.blockReg ?_ | (refine WK.condT ?_ ?_; (focus (simp only [go_sem, seval, reduceCtorEq, encZ_eq, List.length_map, List.length_range]; done))) | (refine WK.condF ?_ ?_; (focus (simp only [go_sem, seval, reduceCtorEq, encZ_eq, List.length_map, List.length_range]; done))) | refine WK.seq ?_ | (refine WK.reg ?_; simp only [go_sem, seval, reduceCtorEq, encZ_eq, List.length_map, List.length_range]) | (refine WK.skip ?_; simp only [go_sem, seval, reduceCtorEq, encZ_eq, List.length_map, List.length_range]) | (refine WK.ret ?_; simp only [go_sem, seval, reduceCtorEq, encZ_eq, List.length_map, List.length_range]) | (refine WK.exit ?_; simp only [go_sem, seval, reduceCtorEq, encZ_eq, List.length_map, List.length_range]) | ((with_reducible refine And.intro ?_ ?_); omega) | omega)
        simp only [Bool.true_and, Bool.false_and, Bool.true_or, Bool.false_or, Bool.not_true, Bool.not_false, Bool.and_true, Bool.or_false] at e2
        try refine ⟨by rw [e]; exact hi, ?_⟩
        try rw [e2]
        refine Cut.by' (by first | exact Nat.le_refl _ | (simp only [Sto.get_add, Sto.get_set, Sto.get_del, Sto.get_none, Sto.next_add, Sto.next_set, Sto.next_del, Sto.next_none]; omega)) (by first | exact Nat.le_refl _ | (simp only [Sto.get_add, Sto.get_set, Sto.get_del, Sto.get_none, Sto.next_add, Sto.next_set, Sto.next_del, Sto.next_none]; omega)) (fun i hi => ?_) (fun i o hi ho => ?_)
        · (try simp only [Sto.get_add, Sto.get_set, Sto.get_del, Sto.get_none, Sto.next_add, Sto.next_set, Sto.next_del, Sto.next_none] at hi ⊢); ((repeat' split) <;> first | exact .inl rfl | exact .inr rfl | omega | (simp_all; done))
        · (try simp only [Sto.get_add, Sto.get_set, Sto.get_del, Sto.get_none, Sto.next_add, Sto.next_set, Sto.next_del, Sto.next_none] at hi ho ⊢); ((repeat' split at ho) <;> (repeat' split) <;> first | (exact ⟨ho, .inl ho⟩) | (cases ho; done) | omega | (cases ho; refine ⟨rfl, .inl rfl⟩) | (cases ho; refine ⟨rfl, .inr ?_⟩; simp only [go_sem, seval, reduceCtorEq, encZ_eq, List.length_map, List.length_range]; first | done | omega | (refine ⟨?_, ?_⟩ <;> omega)) | (simp_all; done))
      | false =>
        refine callK_pureL (h2) rfl (by simp only [go_sem, seval, reduceCtorEq, encZ_eq, List.length_map, List.length_range]) (by simp only [go_sem, seval, reduceCtorEq, encZ_eq, List.length_map, List.length_range]) ?_
        simp only [go_sem, seval, reduceCtorEq, encZ_eq, List.length_map, List.length_range]
        cases vF with
        | true =>
          refine callK_pureL (hF) rfl (by simp only [go_sem, seval, reduceCtorEq, encZ_eq, List.length_map, List.length_range, encF_eq]) (by simp only [go_sem, seval, reduceCtorEq, encZ_eq, List.length_map, List.length_range, encF_eq]) ?_
          simp only [go_sem, seval, reduceCtorEq, encZ_eq, List.length_map, List.length_range, encF_eq]
          try simp only [go_sem, seval, reduceCtorEq, encZ_eq, List.length_map, List.length_range]
          repeat (first | refine WK.blockSeq ?_ | refine WK.blockCond ?_ | refine WK.blockReg ?_ | (refine WK.condT ?_ ?_; (focus (simp only [go_sem, seval, reduceCtorEq, encZ_eq, List.length_map, List.length_range]; done))) | (refine WK.condF ?_ ?_; (focus (simp only [go_sem, seval, reduceCtorEq, encZ_eq, List.length_map, List.length_range]; done))) | refine WK.seq ?_ | (refine WK.reg ?_; simp only [go_sem, seval, reduceCtorEq, encZ_eq, List.length_map, List.length_range]) | (refine WK.skip ?_; simp only [go_sem, seval, reduceCtorEq, encZ_eq, List.length_map, List.length_range]) | (refine WK.ret ?_; simp only [go_sem, seval, reduceCtorEq, encZ_eq, List.length_map, List.length_range]) | (refine WK.exit ?_; simp only [go_sem, seval, reduceCtorEq, encZ_eq, List.length_map, List.length_range]) | ((with_reducible refine And.intro ?_ ?_); omega) | omega)
          simp only [Bool.true_and, Bool.false_and, Bool.true_or, Bool.false_or, Bool.not_true, Bool.not_false, Bool.and_true, Bool.or_false] at e2
          try refine ⟨by rw [e]; exact hi, ?_⟩
          try rw [e2]
          refine Cut.by' (by first | exact Nat.le_refl _ | (simp only [Sto.get_add, Sto.get_set, Sto.get_del, Sto.get_none, Sto.next_add, Sto.next_set, Sto.next_del, Sto.next_none]; omega)) (by first | exact Nat.le_refl _ | (simp only [Sto.get_add, Sto.get_set, Sto.get_del, Sto.get_none, Sto.next_add, Sto.next_set, Sto.next_del, Sto.next_none]; omega)) (fun i hi => ?_) (fun i o hi ho => ?_)
          · (try simp only [Sto.get_add, Sto.get_set, Sto.get_del, Sto.get_none, Sto.next_add, Sto.next_set, Sto.next_del, Sto.next_none] at hi ⊢); ((repeat' split) <;> first | exact .inl rfl | exact .inr rfl | omega | (simp_all; done))
          · (try simp only [Sto.get_add, Sto.get_set, Sto.get_del, Sto.get_none, Sto.next_add, Sto.next_set, Sto.next_del, Sto.next_none] at hi ho ⊢); ((repeat' split at ho) <;> (repeat' split) <;> first | (exact ⟨ho, .inl ho⟩) | (cases ho; done) | omega | (cases ho; refine ⟨rfl, .inl rfl⟩) | (cases ho; refine ⟨rfl, .inr ?_⟩; simp only [go_sem, seval, reduceCtorEq, encZ_eq, List.length_map, List.length_range]; first | done | omega | (refine ⟨?_, ?_⟩ <;> omega)) | (simp_all; done))
        | false =>
          refine callK_pureL (hF) rfl (by simp only [go_sem, seval, reduceCtorEq, encZ_eq, List.length_map, List.length_range, encF_eq]) (by simp only [go_sem, seval, reduceCtorEq, encZ_eq, List.length_map, List.length_range, encF_eq]) ?_
          simp only [go_sem, seval, reduceCtorEq, encZ_eq, List.length_map, List.length_range, encF_eq]
          refine callK_pureL (h3) rfl (by simp only [go_sem, seval, reduceCtorEq, encZ_eq, List.length_map, List.length_range]) (by simp only [go_sem, seval, reduceCtorEq, encZ_eq, List.length_map, List.length_range]) ?_
          simp only [go_sem, seval, reduceCtorEq, encZ_eq, List.length_map, List.length_range]
          try simp only [go_sem, seval, reduceCtorEq, encZ_eq, List.length_map, List.length_range]
          repeat (first | refine WK.blockSeq ?_ | refine WK.blockCond ?_ | refine WK.blockReg ?_ | (refine WK.condT ?_ ?_; (focus (simp only [go_sem, seval, reduceCtorEq, encZ_eq, List.length_map, List.length_range]; done))) | (refine WK.condF ?_ ?_; (focus (simp only [go_sem, seval, reduceCtorEq, encZ_eq, List.length_map, List.length_range]; done))) | refine WK.seq ?_ | (refine WK.reg ?_; simp only [go_sem, seval, reduceCtorEq, encZ_eq, List.length_map, List.length_range]) | (refine WK.skip ?_; simp only [go_sem, seval, reduceCtorEq, encZ_eq, List.length_map, List.length_range]) | (refine WK.ret ?_; simp only [go_sem, seval, reduceCtorEq, encZ_eq, List.length_map, List.length_range]) | (refine WK.exit ?_; simp only [go_sem, seval, reduceCtorEq, encZ_eq, List.length_map, List.length_range]) | ((with_reducible refine And.intro ?_ ?_); omega) | omega)
          simp only [Bool.true_and, Bool.false_and, Bool.true_or, Bool.false_or, Bool.not_true, Bool.not_false, Bool.and_true, Bool.or_false] at e2
          try refine ⟨by rw [e]; exact hi, ?_⟩
          try rw [e2]
          refine Cut.by' (by first | exact Nat.le_refl _ | (simp only [Sto.get_add, Sto.get_set, Sto.get_del, Sto.get_none, Sto.next_add, Sto.next_set, Sto.next_del, Sto.next_none]; omega)) (by first | exact Nat.le_refl _ | (simp only [Sto.get_add, Sto.get_set, Sto.get_del, Sto.get_none, Sto.next_add, Sto.next_set, Sto.next_del, Sto.next_none]; omega)) (fun i hi => ?_) (fun i o hi ho => ?_)
          · (try simp only [Sto.get_add, Sto.get_set, Sto.get_del, Sto.get_none, Sto.next_add, Sto.next_set, Sto.next_del, Sto.next_none] at hi ⊢); ((repeat' split) <;> first | exact .inl rfl | exact .inr rfl | omega | (simp_all; done))
          · (try simp only [Sto.get_add, Sto.get_set, Sto.get_del, Sto.get_none, Sto.next_add, Sto.next_set, Sto.next_del, Sto.next_none] at hi ho ⊢); ((repeat' split at ho) <;> (repeat' split) <;> first | (exact ⟨ho, .inl ho⟩) | (cases ho; done) | omega | (cases ho; refine ⟨rfl, .inl rfl⟩) | (cases ho; refine ⟨rfl, .inr ?_⟩; simp only [go_sem, seval, reduceCtorEq, encZ_eq, List.length_map, List.length_range]; first | done | omega | (refine ⟨?_, ?_⟩ <;> omega)) | (simp_all; done))
  · simp only [go_sem, seval, reduceCtorEq, encZ_eq, List.length_map, List.length_range]
    have e : ((List.range n).map (fun l => AV.bool (largeB c a b z j y f x l)) ++ List.replicate (n - n) (AV.bool false)) = (List.range n).map (fun l => AV.bool (largeB c a b z j y f x l)) := by simp
    rw [e, setB_list (largeB c a b z j y f x) p3]
    have hs := same_ok (gl := gl) n x (rXs c a b z j y f x) p3 hlow (by rw [rXs, ← hn]; exact low_setB _ n)
    have hw : setB (largeB c a b z j y f x) n = rXs c a b z j y f x := by rw [rXs, hn]
    have hlow' : Low n (rXs c a b z j y f x) := by rw [← hw]; exact low_setB _ n
    rw [hw]
    generalize rXs c a b z j y f x = x' at *
    refine WK.freeze 3 (by simp only [go_sem, seval, reduceCtorEq]; rfl) ?_
    refine WK.lessT 12 (v := encZ n x') (by simp only [go_sem, seval, reduceCtorEq]; rw [if_pos (by simp), List.take_of_length_le (by simp)]; exact .refl _) ?_
    try simp only [go_sem, seval, reduceCtorEq, encZ_eq, List.length_map, List.length_range]
    repeat (first | refine WK.blockSeq ?_ | refine WK.blockCond ?_ | refine WK.blockReg ?_ | (refine WK.condT ?_ ?_; (focus (simp only [go_sem, seval, reduceCtorEq, encZ_eq, List.length_map, List.length_range]; done))) | (refine WK.condF ?_ ?_; (focus (simp only [go_sem, seval, reduceCtorEq, encZ_eq, List.length_map, List.length_range]; done))) | refine WK.seq ?_ | (refine WK.reg ?_; simp only [go_sem, seval, reduceCtorEq, encZ_eq, List.length_map, List.length_range]) | (refine WK.skip ?_; simp only [go_sem, seval, reduceCtorEq, encZ_eq, List.length_map, List.length_range]) | (refine WK.ret ?_; simp only [go_sem, seval, reduceCtorEq, encZ_eq, List.length_map, List.length_range]) | (refine WK.exit ?_; simp only [go_sem, seval, reduceCtorEq, encZ_eq, List.length_map, List.length_range]) | ((with_reducible refine And.intro ?_ ?_); omega) | omega)
    refine callK_pureL (hs) rfl (by simp only [go_sem, seval, reduceCtorEq, encZ_eq, List.length_map, List.length_range]) (by simp only [go_sem, seval, reduceCtorEq, encZ_eq, List.length_map, List.length_range]) ?_
    simp only [go_sem, seval, reduceCtorEq, encZ_eq, List.length_map, List.length_range]
    try simp only [go_sem, seval, reduceCtorEq, encZ_eq, List.length_map, List.length_range]
    repeat (first | refine WK.blockSeq ?_ | refine WK.blockCond ?_ | refine WK.blockReg ?_ | (refine WK.condT ?_ ?_; (focus (simp only [go_sem, seval, reduceCtorEq, encZ_eq, List.length_map, List.length_range]; done))) | (refine WK.condF ?_ ?_; (focus (simp only [go_sem, seval, reduceCtorEq, encZ_eq, List.length_map, List.length_range]; done))) | refine WK.seq ?_ | (refine WK.reg ?_; simp only [go_sem, seval, reduceCtorEq, encZ_eq, List.length_map, List.length_range]) | (refine WK.skip ?_; simp only [go_sem, seval, reduceCtorEq, encZ_eq, List.length_map, List.length_range]) | (refine WK.ret ?_; simp only [go_sem, seval, reduceCtorEq, encZ_eq, List.length_map, List.length_range]) | (refine WK.exit ?_; simp only [go_sem, seval, reduceCtorEq, encZ_eq, List.length_map, List.length_range]) | ((with_reducible refine And.intro ?_ ?_); omega) | omega)
    refine WK.cond _ (by simp only [go_sem, seval, reduceCtorEq, encZ_eq, List.length_map, List.length_range]; rfl) (fun h => ?_) (fun h => ?_)
    · have hx : x' = x := (beq_iff_eq.1 h).symm
      rw [if_pos hx] at hI
      simp only [Option.some.injEq, Prod.mk.injEq, and_true] at hI
      subst hI
      try simp only [go_sem, seval, reduceCtorEq, encZ_eq, List.length_map, List.length_range]
      repeat (first | refine WK.blockSeq ?_ | refine WK.blockCond ?_ | refine WK.blockReg ?_ | (refine WK.condT ?_ ?_; (focus (simp only [go_sem, seval, reduceCtorEq, encZ_eq, List.length_map, List.length_range]; done))) | (refine WK.condF ?_ ?_; (focus (simp only [go_sem, seval, reduceCtorEq, encZ_eq, List.length_map, List.length_range]; done))) | refine WK.seq ?_ | (refine WK.reg ?_; simp only [go_sem, seval, reduceCtorEq, encZ_eq, List.length_map, List.length_range]) | (refine WK.skip ?_; simp only [go_sem, seval, reduceCtorEq, encZ_eq, List.length_map, List.length_range]) | (refine WK.ret ?_; simp only [go_sem, seval, reduceCtorEq, encZ_eq, List.length_map, List.length_range]) | (refine WK.exit ?_; simp only [go_sem, seval, reduceCtorEq, encZ_eq, List.length_map, List.length_range]) | ((with_reducible refine And.intro ?_ ?_); omega) | omega)
      refine Cut.by' (by first | exact Nat.le_refl _ | (simp only [Sto.get_add, Sto.get_set, Sto.get_del, Sto.get_none, Sto.next_add, Sto.next_set, Sto.next_del, Sto.next_none]; omega)) (by first | exact Nat.le_refl _ | (simp only [Sto.get_add, Sto.get_set, Sto.get_del, Sto.get_none, Sto.next_add, Sto.next_set, Sto.next_del, Sto.next_none]; omega)) (fun i hi => ?_) (fun i o hi ho => ?_)
      · (try simp only [Sto.get_add, Sto.get_set, Sto.get_del, Sto.get_none, Sto.next_add, Sto.next_set, Sto.next_del, Sto.next_none] at hi ⊢); ((repeat' split) <;> first | exact .inl rfl | exact .inr rfl | omega | (simp_all; done))
      · (try simp only [Sto.get_add, Sto.get_set, Sto.get_del, Sto.get_none, Sto.next_add, Sto.next_set, Sto.next_del, Sto.next_none] at hi ho ⊢); ((repeat' split at ho) <;> (repeat' split) <;> first | (exact ⟨ho, .inl ho⟩) | (cases ho; done) | omega | (cases ho; refine ⟨rfl, .inl rfl⟩) | (cases ho; refine ⟨rfl, .inr ?_⟩; simp only [go_sem, seval, reduceCtorEq, encZ_eq, List.length_map, List.length_range]; first | done | omega | (refine ⟨?_, ?_⟩ <;> omega)) | (simp_all; done))
    · have hx : ¬ x' = x := fun e => by simp [e] at h
      rw [if_neg hx] at hI
      try simp only [go_sem, seval, reduceCtorEq, encZ_eq, List.length_map, List.length_range]
      repeat (first | refine WK.blockSeq ?_ | refine WK.blockCond ?_ | refine WK.blockReg ?_ | (refine WK.condT ?_ ?_; (focus (simp only [go_sem, seval, reduceCtorEq, encZ_eq, List.length_map, List.length_range]; done))) | (refine WK.condF ?_ ?_; (focus (simp only [go_sem, seval, reduceCtorEq, encZ_eq, List.length_map, List.length_range]; done))) | refine WK.seq ?_ | (refine WK.reg ?_; simp only [go_sem, seval, reduceCtorEq, encZ_eq, List.length_map, List.length_range]) | (refine WK.skip ?_; simp only [go_sem, seval, reduceCtorEq, encZ_eq, List.length_map, List.length_range]) | (refine WK.ret ?_; simp only [go_sem, seval, reduceCtorEq, encZ_eq, List.length_map, List.length_range]) | (refine WK.exit ?_; simp only [go_sem, seval, reduceCtorEq, encZ_eq, List.length_map, List.length_range]) | ((with_reducible refine And.intro ?_ ?_); omega) | omega)
      refine ⟨(m, x'), ⟨hI, hlow'⟩, Nat.lt_succ_self m, ?_⟩
      refine ⟨by simp only [go_sem, seval, reduceCtorEq, encZ_eq], ?_⟩
      exact cut_frz (((BSto.none.add (by simp only [go_sem, seval, reduceCtorEq])).add (by simp only [go_sem, seval, reduceCtorEq])).add (by simp only [go_sem, seval, reduceCtorEq])) _ _
end
end Go.Sx
