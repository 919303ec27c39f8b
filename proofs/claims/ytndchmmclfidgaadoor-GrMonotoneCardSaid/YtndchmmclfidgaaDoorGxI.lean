import Derived.Test.YtndchmmclfidgaaDoorGxH
set_option maxRecDepth 100000
set_option linter.unusedSimpArgs false
set_option linter.unusedVariables false
set_option linter.unnecessarySimpa false
namespace Go.Sx
open Go Go.Lg Go.Proofs
theorem b18 {gl : GL} : Body (C gl).P 18 Tryd.f18 (codeOf Tryd.f18) := ⟨Tryd.func18, by kernel_rfl, by kernel_rfl⟩
theorem b20 {gl : GL} : Body (C gl).P 20 Tryd.f20 (codeOf Tryd.f20) := ⟨Tryd.func20, by kernel_rfl, by kernel_rfl⟩

def rkeptB (c : Ct) (a b : Nat) (z : BitVec 64) : Bool := (List.range (2 ^ a)).all fun i => !(holdsF i i c.ie && !anyN (fun l => holdsF ((i + l * 2 ^ a : Nat) : Int) ((i + l * 2 ^ a : Nat) : Int) c.is && z.getLsbD (i + l * 2 ^ a)) (2 ^ b))

section
variable {gl : GL}
theorem rwon_no (c : Ct) (hs : ShrtC c) (hv : validC c = false) : PCall (C gl) 18 [encC c] (.tup [.list false [], .int .i64 1]) := by
  refine pcallX (callX_of b18 (by simp [Tryd.ntmps18]) ?_) (by simp only [AllCl, cl_encC, and_true]) (by simp only [cl_tup, AllCl, cl_list, clE_nil, cl_int, and_true])
  refine W.of ?_
  rw [Tryd.ntmps18]
  simp only [toK, codeOf, Tryd.f18, go_sem, seval, reduceCtorEq]
  try simp only [go_sem, seval, reduceCtorEq]
  repeat (first | refine WK.blockSeq ?_ | refine WK.blockCond ?_ | refine WK.blockReg ?_ | (refine WK.condT ?_ ?_; (focus (simp only [go_sem, seval, reduceCtorEq]; done))) | (refine WK.condF ?_ ?_; (focus (simp only [go_sem, seval, reduceCtorEq]; done))) | refine WK.seq ?_ | (refine WK.reg ?_; simp only [go_sem, seval, reduceCtorEq]) | (refine WK.skip ?_; simp only [go_sem, seval, reduceCtorEq]) | (refine WK.ret ?_; simp only [go_sem, seval, reduceCtorEq]) | (refine WK.exit ?_; simp only [go_sem, seval, reduceCtorEq]) | ((with_reducible refine And.intro ?_ ?_); omega) | omega)
  refine callK_pureL (rvalid_ok (gl := gl) c hs) rfl (by simp only [go_sem, seval, reduceCtorEq]) (by simp only [go_sem, seval, reduceCtorEq]) ?_
  simp only [go_sem, seval, reduceCtorEq]
  try simp only [go_sem, seval, reduceCtorEq, hv, rvalC_eq]
  repeat (first | refine WK.blockSeq ?_ | refine WK.blockCond ?_ | refine WK.blockReg ?_ | (refine WK.condT ?_ ?_; (focus (simp only [go_sem, seval, reduceCtorEq, hv, rvalC_eq]; done))) | (refine WK.condF ?_ ?_; (focus (simp only [go_sem, seval, reduceCtorEq, hv, rvalC_eq]; done))) | refine WK.seq ?_ | (refine WK.reg ?_; simp only [go_sem, seval, reduceCtorEq, hv, rvalC_eq]) | (refine WK.skip ?_; simp only [go_sem, seval, reduceCtorEq, hv, rvalC_eq]) | (refine WK.ret ?_; simp only [go_sem, seval, reduceCtorEq, hv, rvalC_eq]) | (refine WK.exit ?_; simp only [go_sem, seval, reduceCtorEq, hv, rvalC_eq]) | ((with_reducible refine And.intro ?_ ?_); omega) | omega)
  refine ⟨AV.le_tup ⟨AV.le_list' _, .refl _, trivial⟩, ?_⟩
  refine Cut.by' (by first | exact Nat.le_refl _ | (simp only [Sto.get_add, Sto.get_set, Sto.get_del, Sto.get_none, Sto.next_add, Sto.next_set, Sto.next_del, Sto.next_none]; omega)) (by first | exact Nat.le_refl _ | (simp only [Sto.get_add, Sto.get_set, Sto.get_del, Sto.get_none, Sto.next_add, Sto.next_set, Sto.next_del, Sto.next_none]; omega)) (fun i hi => ?_) (fun i o hi ho => ?_)
  · (try simp only [Sto.get_add, Sto.get_set, Sto.get_del, Sto.get_none, Sto.next_add, Sto.next_set, Sto.next_del, Sto.next_none] at hi ⊢); ((repeat' split) <;> first | exact .inl rfl | exact .inr rfl | omega | (simp_all; done))
  · (try simp only [Sto.get_add, Sto.get_set, Sto.get_del, Sto.get_none, Sto.next_add, Sto.next_set, Sto.next_del, Sto.next_none] at hi ho ⊢); ((repeat' split at ho) <;> (repeat' split) <;> first | (exact ⟨ho, .inl ho⟩) | (cases ho; done) | omega | (cases ho; refine ⟨rfl, .inl rfl⟩) | (cases ho; refine ⟨rfl, .inr ?_⟩; simp only [go_sem, seval, reduceCtorEq]; first | done | omega | (refine ⟨?_, ?_⟩ <;> omega)) | (simp_all; done))
theorem rwon_yes (c : Ct) (a b n : Nat) (hs : ShrtC c) (hv : validC c = true) (hc : CtV c a b) (hn : n = 2 ^ (a + b)) (hst : StabR c a b) : PCall (C gl) 18 [encC c] (.tup [encZ n (RW c a b), .int .i64 0]) := by
  refine pcallX (callX_of b18 (by simp [Tryd.ntmps18]) ?_) (by simp only [AllCl, cl_encC, and_true]) (by simp only [cl_tup, AllCl, cl_encZ, cl_int, and_true])
  refine W.of ?_
  rw [Tryd.ntmps18]
  simp only [toK, codeOf, Tryd.f18, go_sem, seval, reduceCtorEq]
  try simp only [go_sem, seval, reduceCtorEq]
  repeat (first | refine WK.blockSeq ?_ | refine WK.blockCond ?_ | refine WK.blockReg ?_ | (refine WK.condT ?_ ?_; (focus (simp only [go_sem, seval, reduceCtorEq]; done))) | (refine WK.condF ?_ ?_; (focus (simp only [go_sem, seval, reduceCtorEq]; done))) | refine WK.seq ?_ | (refine WK.reg ?_; simp only [go_sem, seval, reduceCtorEq]) | (refine WK.skip ?_; simp only [go_sem, seval, reduceCtorEq]) | (refine WK.ret ?_; simp only [go_sem, seval, reduceCtorEq]) | (refine WK.exit ?_; simp only [go_sem, seval, reduceCtorEq]) | ((with_reducible refine And.intro ?_ ?_); omega) | omega)
  refine callK_pureL (rvalid_ok (gl := gl) c hs) rfl (by simp only [go_sem, seval, reduceCtorEq]) (by simp only [go_sem, seval, reduceCtorEq]) ?_
  simp only [go_sem, seval, reduceCtorEq]
  try simp only [go_sem, seval, reduceCtorEq, hv, rvalC_eq]
  repeat (first | refine WK.blockSeq ?_ | refine WK.blockCond ?_ | refine WK.blockReg ?_ | (refine WK.condT ?_ ?_; (focus (simp only [go_sem, seval, reduceCtorEq, hv, rvalC_eq]; done))) | (refine WK.condF ?_ ?_; (focus (simp only [go_sem, seval, reduceCtorEq, hv, rvalC_eq]; done))) | refine WK.seq ?_ | (refine WK.reg ?_; simp only [go_sem, seval, reduceCtorEq, hv, rvalC_eq]) | (refine WK.skip ?_; simp only [go_sem, seval, reduceCtorEq, hv, rvalC_eq]) | (refine WK.ret ?_; simp only [go_sem, seval, reduceCtorEq, hv, rvalC_eq]) | (refine WK.exit ?_; simp only [go_sem, seval, reduceCtorEq, hv, rvalC_eq]) | ((with_reducible refine And.intro ?_ ?_); omega) | omega)
  refine callK_pureL (winning_ok (gl := gl) c a b n hc hn hst) rfl (by simp only [go_sem, seval, reduceCtorEq]) (by simp only [go_sem, seval, reduceCtorEq]) ?_
  simp only [go_sem, seval, reduceCtorEq]
  try simp only [go_sem, seval, reduceCtorEq, encZ_bits]
  repeat (first | refine WK.blockSeq ?_ | refine WK.blockCond ?_ | refine WK.blockReg ?_ | (refine WK.condT ?_ ?_; (focus (simp only [go_sem, seval, reduceCtorEq, encZ_bits]; done))) | (refine WK.condF ?_ ?_; (focus (simp only [go_sem, seval, reduceCtorEq, encZ_bits]; done))) | refine WK.seq ?_ | (refine WK.reg ?_; simp only [go_sem, seval, reduceCtorEq, encZ_bits]) | (refine WK.skip ?_; simp only [go_sem, seval, reduceCtorEq, encZ_bits]) | (refine WK.ret ?_; simp only [go_sem, seval, reduceCtorEq, encZ_bits]) | (refine WK.exit ?_; simp only [go_sem, seval, reduceCtorEq, encZ_bits]) | ((with_reducible refine And.intro ?_ ?_); omega) | omega)
  refine Cut.by' (by first | exact Nat.le_refl _ | (simp only [Sto.get_add, Sto.get_set, Sto.get_del, Sto.get_none, Sto.next_add, Sto.next_set, Sto.next_del, Sto.next_none]; omega)) (by first | exact Nat.le_refl _ | (simp only [Sto.get_add, Sto.get_set, Sto.get_del, Sto.get_none, Sto.next_add, Sto.next_set, Sto.next_del, Sto.next_none]; omega)) (fun i hi => ?_) (fun i o hi ho => ?_)
  · (try simp only [Sto.get_add, Sto.get_set, Sto.get_del, Sto.get_none, Sto.next_add, Sto.next_set, Sto.next_del, Sto.next_none] at hi ⊢); ((repeat' split) <;> first | exact .inl rfl | exact .inr rfl | omega | (simp_all; done))
  · (try simp only [Sto.get_add, Sto.get_set, Sto.get_del, Sto.get_none, Sto.next_add, Sto.next_set, Sto.next_del, Sto.next_none] at hi ho ⊢); ((repeat' split at ho) <;> (repeat' split) <;> first | (exact ⟨ho, .inl ho⟩) | (cases ho; done) | omega | (cases ho; refine ⟨rfl, .inl rfl⟩) | (cases ho; refine ⟨rfl, .inr ?_⟩; simp only [go_sem, seval, reduceCtorEq]; first | done | omega | (refine ⟨?_, ?_⟩ <;> omega)) | (simp_all; done))
theorem rkept_no (c : Ct) (hs : ShrtC c) (hv : validC c = false) : PCall (C gl) 20 [encC c] (.tup [.bool false, .int .i64 1]) := by
  refine pcallX (callX_of b20 (by simp [Tryd.ntmps20]) ?_) (by simp only [AllCl, cl_encC, and_true]) (by simp only [cl_tup, AllCl, cl_bool, cl_int, and_true])
  refine W.of ?_
  rw [Tryd.ntmps20]
  simp only [toK, codeOf, Tryd.f20, go_sem, seval, reduceCtorEq]
  try simp only [go_sem, seval, reduceCtorEq]
  repeat (first | refine WK.blockSeq ?_ | refine WK.blockCond ?_ | refine WK.blockReg ?_ | (refine WK.condT ?_ ?_; (focus (simp only [go_sem, seval, reduceCtorEq]; done))) | (refine WK.condF ?_ ?_; (focus (simp only [go_sem, seval, reduceCtorEq]; done))) | refine WK.seq ?_ | (refine WK.reg ?_; simp only [go_sem, seval, reduceCtorEq]) | (refine WK.skip ?_; simp only [go_sem, seval, reduceCtorEq]) | (refine WK.ret ?_; simp only [go_sem, seval, reduceCtorEq]) | (refine WK.exit ?_; simp only [go_sem, seval, reduceCtorEq]) | ((with_reducible refine And.intro ?_ ?_); omega) | omega)
  refine callK_pureL (rvalid_ok (gl := gl) c hs) rfl (by simp only [go_sem, seval, reduceCtorEq]) (by simp only [go_sem, seval, reduceCtorEq]) ?_
  simp only [go_sem, seval, reduceCtorEq]
  try simp only [go_sem, seval, reduceCtorEq, hv, rvalC_eq]
  repeat (first | refine WK.blockSeq ?_ | refine WK.blockCond ?_ | refine WK.blockReg ?_ | (refine WK.condT ?_ ?_; (focus (simp only [go_sem, seval, reduceCtorEq, hv, rvalC_eq]; done))) | (refine WK.condF ?_ ?_; (focus (simp only [go_sem, seval, reduceCtorEq, hv, rvalC_eq]; done))) | refine WK.seq ?_ | (refine WK.reg ?_; simp only [go_sem, seval, reduceCtorEq, hv, rvalC_eq]) | (refine WK.skip ?_; simp only [go_sem, seval, reduceCtorEq, hv, rvalC_eq]) | (refine WK.ret ?_; simp only [go_sem, seval, reduceCtorEq, hv, rvalC_eq]) | (refine WK.exit ?_; simp only [go_sem, seval, reduceCtorEq, hv, rvalC_eq]) | ((with_reducible refine And.intro ?_ ?_); omega) | omega)
  refine Cut.by' (by first | exact Nat.le_refl _ | (simp only [Sto.get_add, Sto.get_set, Sto.get_del, Sto.get_none, Sto.next_add, Sto.next_set, Sto.next_del, Sto.next_none]; omega)) (by first | exact Nat.le_refl _ | (simp only [Sto.get_add, Sto.get_set, Sto.get_del, Sto.get_none, Sto.next_add, Sto.next_set, Sto.next_del, Sto.next_none]; omega)) (fun i hi => ?_) (fun i o hi ho => ?_)
  · (try simp only [Sto.get_add, Sto.get_set, Sto.get_del, Sto.get_none, Sto.next_add, Sto.next_set, Sto.next_del, Sto.next_none] at hi ⊢); ((repeat' split) <;> first | exact .inl rfl | exact .inr rfl | omega | (simp_all; done))
  · (try simp only [Sto.get_add, Sto.get_set, Sto.get_del, Sto.get_none, Sto.next_add, Sto.next_set, Sto.next_del, Sto.next_none] at hi ho ⊢); ((repeat' split at ho) <;> (repeat' split) <;> first | (exact ⟨ho, .inl ho⟩) | (cases ho; done) | omega | (cases ho; refine ⟨rfl, .inl rfl⟩) | (cases ho; refine ⟨rfl, .inr ?_⟩; simp only [go_sem, seval, reduceCtorEq]; first | done | omega | (refine ⟨?_, ?_⟩ <;> omega)) | (simp_all; done))
theorem rkept_yes (c : Ct) (a b n : Nat) (hs : ShrtC c) (hv : validC c = true) (hc : CtV c a b) (hn : n = 2 ^ (a + b)) (hst : StabR c a b) : PCall (C gl) 20 [encC c] (.tup [.bool (rkeptB c a b (RW c a b)), .int .i64 0]) := by
  refine pcallX (callX_of b20 (by simp [Tryd.ntmps20]) ?_) (by simp only [AllCl, cl_encC, and_true]) (by simp only [cl_tup, AllCl, cl_bool, cl_int, and_true])
  have p1 := pow2_le 3 hc.a3
  have p2 := pow2_le 3 hc.b3
  have p3 := pow2_le (a := a + b) 6 (by have := hc.a3; have := hc.b3; omega)
  have hin := hc.inn
  have hout := hc.out
  have q1 := shl_one a (by have := hc.a3; omega)
  have q2 := shl_one b (by have := hc.b3; omega)
  refine W.of ?_
  rw [Tryd.ntmps20]
  simp only [toK, codeOf, Tryd.f20, go_sem, seval, reduceCtorEq]
  try simp only [go_sem, seval, reduceCtorEq, hin, hout, q1, q2]
  repeat (first | refine WK.blockSeq ?_ | refine WK.blockCond ?_ | refine WK.blockReg ?_ | (refine WK.condT ?_ ?_; (focus (simp only [go_sem, seval, reduceCtorEq, hin, hout, q1, q2]; done))) | (refine WK.condF ?_ ?_; (focus (simp only [go_sem, seval, reduceCtorEq, hin, hout, q1, q2]; done))) | refine WK.seq ?_ | (refine WK.reg ?_; simp only [go_sem, seval, reduceCtorEq, hin, hout, q1, q2]) | (refine WK.skip ?_; simp only [go_sem, seval, reduceCtorEq, hin, hout, q1, q2]) | (refine WK.ret ?_; simp only [go_sem, seval, reduceCtorEq, hin, hout, q1, q2]) | (refine WK.exit ?_; simp only [go_sem, seval, reduceCtorEq, hin, hout, q1, q2]) | ((with_reducible refine And.intro ?_ ?_); omega) | omega)
  refine callK_pureL (rvalid_ok (gl := gl) c hs) rfl (by simp only [go_sem, seval, reduceCtorEq, hin, hout, q1, q2]) (by simp only [go_sem, seval, reduceCtorEq, hin, hout, q1, q2]) ?_
  simp only [go_sem, seval, reduceCtorEq, hin, hout, q1, q2]
  try simp only [go_sem, seval, reduceCtorEq, hin, hout, q1, q2, hv, rvalC_eq]
  repeat (first | refine WK.blockSeq ?_ | refine WK.blockCond ?_ | refine WK.blockReg ?_ | (refine WK.condT ?_ ?_; (focus (simp only [go_sem, seval, reduceCtorEq, hin, hout, q1, q2, hv, rvalC_eq]; done))) | (refine WK.condF ?_ ?_; (focus (simp only [go_sem, seval, reduceCtorEq, hin, hout, q1, q2, hv, rvalC_eq]; done))) | refine WK.seq ?_ | (refine WK.reg ?_; simp only [go_sem, seval, reduceCtorEq, hin, hout, q1, q2, hv, rvalC_eq]) | (refine WK.skip ?_; simp only [go_sem, seval, reduceCtorEq, hin, hout, q1, q2, hv, rvalC_eq]) | (refine WK.ret ?_; simp only [go_sem, seval, reduceCtorEq, hin, hout, q1, q2, hv, rvalC_eq]) | (refine WK.exit ?_; simp only [go_sem, seval, reduceCtorEq, hin, hout, q1, q2, hv, rvalC_eq]) | ((with_reducible refine And.intro ?_ ?_); omega) | omega)
  refine callK_pureL (winning_ok (gl := gl) c a b n hc hn hst) rfl (by simp only [go_sem, seval, reduceCtorEq, hin, hout, q1, q2]) (by simp only [go_sem, seval, reduceCtorEq, hin, hout, q1, q2]) ?_
  simp only [go_sem, seval, reduceCtorEq, hin, hout, q1, q2]
  generalize RW c a b = z at *
  try simp only [go_sem, seval, reduceCtorEq, hin, hout, q1, q2]
  repeat (first | refine WK.blockSeq ?_ | refine WK.blockCond ?_ | refine WK.blockReg ?_ | (refine WK.condT ?_ ?_; (focus (simp only [go_sem, seval, reduceCtorEq, hin, hout, q1, q2]; done))) | (refine WK.condF ?_ ?_; (focus (simp only [go_sem, seval, reduceCtorEq, hin, hout, q1, q2]; done))) | refine WK.seq ?_ | (refine WK.reg ?_; simp only [go_sem, seval, reduceCtorEq, hin, hout, q1, q2]) | (refine WK.skip ?_; simp only [go_sem, seval, reduceCtorEq, hin, hout, q1, q2]) | (refine WK.ret ?_; simp only [go_sem, seval, reduceCtorEq, hin, hout, q1, q2]) | (refine WK.exit ?_; simp only [go_sem, seval, reduceCtorEq, hin, hout, q1, q2]) | ((with_reducible refine And.intro ?_ ?_); omega) | omega)
  refine WK.rangeI ((2 ^ a)) [1, 4] [] (fun i => []) (fun i => Sto.none.add (.box (ctCells c))) (fun i => ∀ d < i, (!(holdsF d d c.ie && !anyN (fun l => holdsF ((d + l * 2 ^ a : Nat) : Int) ((d + l * 2 ^ a : Nat) : Int) c.is && z.getLsbD (d + l * 2 ^ a)) (2 ^ b))) = true) (by simp) (by omega) (by decide) (by simp only [go_sem, seval, reduceCtorEq, hin, hout, q1, q2]) (by simp only [go_sem, seval, reduceCtorEq, hin, hout, q1, q2]) (by simp only [go_sem, seval, reduceCtorEq, hin, hout, q1, q2, List.take_zero]) (by first | rfl | (simp only [go_sem, seval, reduceCtorEq, hin, hout, q1, q2]; done) | (refine Sto.ext' (by simp only [go_sem, seval, reduceCtorEq, hin, hout, q1, q2]) (fun i => ?_); simp only [go_sem, seval, reduceCtorEq, hin, hout, q1, q2]; repeat' split; all_goals (first | rfl | omega | simp_all))) ?_ ?_
  · intro d hd hI
    simp only [go_sem, seval, reduceCtorEq, hin, hout, q1, q2]
    try simp only [go_sem, seval, reduceCtorEq, hin, hout, q1, q2]
    repeat (first | refine WK.blockSeq ?_ | refine WK.blockCond ?_ | refine WK.blockReg ?_ | (refine WK.condT ?_ ?_; (focus (simp only [go_sem, seval, reduceCtorEq, hin, hout, q1, q2]; done))) | (refine WK.condF ?_ ?_; (focus (simp only [go_sem, seval, reduceCtorEq, hin, hout, q1, q2]; done))) | refine WK.seq ?_ | (refine WK.reg ?_; simp only [go_sem, seval, reduceCtorEq, hin, hout, q1, q2]) | (refine WK.skip ?_; simp only [go_sem, seval, reduceCtorEq, hin, hout, q1, q2]) | (refine WK.ret ?_; simp only [go_sem, seval, reduceCtorEq, hin, hout, q1, q2]) | (refine WK.exit ?_; simp only [go_sem, seval, reduceCtorEq, hin, hout, q1, q2]) | ((with_reducible refine And.intro ?_ ?_); omega) | omega)
    refine WK.rangeX ((2 ^ b)) [1, 4, 5, 16, 17] [6] (fun o => [.bool (anyN (fun l => holdsF ((d + l * 2 ^ a : Nat) : Int) ((d + l * 2 ^ a : Nat) : Int) c.is && z.getLsbD (d + l * 2 ^ a)) o)]) (fun o => Sto.none.add (.box (ctCells c))) (by omega) (by decide) (by simp only [go_sem, seval, reduceCtorEq, hin, hout, q1, q2, anyN_0]) (by simp only [go_sem, seval, reduceCtorEq, hin, hout, q1, q2, anyN_0]) (by simp only [go_sem, seval, reduceCtorEq, hin, hout, q1, q2, anyN_0, List.take_zero]) (by first | rfl | (simp only [go_sem, seval, reduceCtorEq, hin, hout, q1, q2, anyN_0]; done) | (refine Sto.ext' (by simp only [go_sem, seval, reduceCtorEq, hin, hout, q1, q2, anyN_0]) (fun i => ?_); simp only [go_sem, seval, reduceCtorEq, hin, hout, q1, q2, anyN_0]; repeat' split; all_goals (first | rfl | omega | simp_all))) ?_ ?_
    · intro o ho
      simp only [go_sem, seval, reduceCtorEq, hin, hout, q1, q2]
      have hm : o * 2 ^ a ≤ 8 * 8 := Nat.mul_le_mul (by omega) (by omega)
      have r1 := shl_mul o a (by omega) (by have := hc.a3; omega)
      have r2 := wrap_add_nat d (o * 2 ^ a) (by omega)
      have r3 := idx_lt hd ho
      rw [← hn] at r3
      have r4 := bits_get r3 z
      have hT := true_ok (gl := gl) c.is hc.tis (d + o * 2 ^ a : Nat) (d + o * 2 ^ a : Nat)
      cases hb : anyN (fun l => holdsF ((d + l * 2 ^ a : Nat) : Int) ((d + l * 2 ^ a : Nat) : Int) c.is && z.getLsbD (d + l * 2 ^ a)) o with
      | true =>
        try simp only [go_sem, seval, reduceCtorEq, hin, hout, q1, q2, r1, r2, r4, encZ_bits, hb, anyN_succ, Bool.true_or]
        repeat (first | refine WK.blockSeq ?_ | refine WK.blockCond ?_ | refine WK.blockReg ?_ | (refine WK.condT ?_ ?_; (focus (simp only [go_sem, seval, reduceCtorEq, hin, hout, q1, q2, r1, r2, r4, encZ_bits, hb, anyN_succ, Bool.true_or]; done))) | (refine WK.condF ?_ ?_; (focus (simp only [go_sem, seval, reduceCtorEq, hin, hout, q1, q2, r1, r2, r4, encZ_bits, hb, anyN_succ, Bool.true_or]; done))) | refine WK.seq ?_ | (refine WK.reg ?_; simp only [go_sem, seval, reduceCtorEq, hin, hout, q1, q2, r1, r2, r4, encZ_bits, hb, anyN_succ, Bool.true_or]) | (refine WK.skip ?_; simp only [go_sem, seval, reduceCtorEq, hin, hout, q1, q2, r1, r2, r4, encZ_bits, hb, anyN_succ, Bool.true_or]) | (refine WK.ret ?_; simp only [go_sem, seval, reduceCtorEq, hin, hout, q1, q2, r1, r2, r4, encZ_bits, hb, anyN_succ, Bool.true_or]) | (refine WK.exit ?_; simp only [go_sem, seval, reduceCtorEq, hin, hout, q1, q2, r1, r2, r4, encZ_bits, hb, anyN_succ, Bool.true_or]) | ((with_reducible refine And.intro ?_ ?_); omega) | omega)
      | false =>
        try simp only [go_sem, seval, reduceCtorEq, hin, hout, q1, q2, r1, r2, r4, encZ_bits, hb, anyN_succ, Bool.false_or]
        repeat (first | refine WK.blockSeq ?_ | refine WK.blockCond ?_ | refine WK.blockReg ?_ | (refine WK.condT ?_ ?_; (focus (simp only [go_sem, seval, reduceCtorEq, hin, hout, q1, q2, r1, r2, r4, encZ_bits, hb, anyN_succ, Bool.false_or]; done))) | (refine WK.condF ?_ ?_; (focus (simp only [go_sem, seval, reduceCtorEq, hin, hout, q1, q2, r1, r2, r4, encZ_bits, hb, anyN_succ, Bool.false_or]; done))) | refine WK.seq ?_ | (refine WK.reg ?_; simp only [go_sem, seval, reduceCtorEq, hin, hout, q1, q2, r1, r2, r4, encZ_bits, hb, anyN_succ, Bool.false_or]) | (refine WK.skip ?_; simp only [go_sem, seval, reduceCtorEq, hin, hout, q1, q2, r1, r2, r4, encZ_bits, hb, anyN_succ, Bool.false_or]) | (refine WK.ret ?_; simp only [go_sem, seval, reduceCtorEq, hin, hout, q1, q2, r1, r2, r4, encZ_bits, hb, anyN_succ, Bool.false_or]) | (refine WK.exit ?_; simp only [go_sem, seval, reduceCtorEq, hin, hout, q1, q2, r1, r2, r4, encZ_bits, hb, anyN_succ, Bool.false_or]) | ((with_reducible refine And.intro ?_ ?_); omega) | omega)
        cases h2 : holdsF ((d + o * 2 ^ a : Nat) : Int) ((d + o * 2 ^ a : Nat) : Int) c.is with
        | true =>
          refine callK_pureL (hT) rfl (by simp only [go_sem, seval, reduceCtorEq, hin, hout, q1, q2, r1, r2, r4, encZ_bits, encF_eq, h2]) (by simp only [go_sem, seval, reduceCtorEq, hin, hout, q1, q2, r1, r2, r4, encZ_bits, encF_eq, h2]) ?_
          simp only [go_sem, seval, reduceCtorEq, hin, hout, q1, q2, r1, r2, r4, encZ_bits, encF_eq, h2]
          try simp only [go_sem, seval, reduceCtorEq, hin, hout, q1, q2, r1, r2, r4, encZ_bits, h2, Bool.true_and]
          repeat (first | refine WK.blockSeq ?_ | refine WK.blockCond ?_ | refine WK.blockReg ?_ | (refine WK.condT ?_ ?_; (focus (simp only [go_sem, seval, reduceCtorEq, hin, hout, q1, q2, r1, r2, r4, encZ_bits, h2, Bool.true_and]; done))) | (refine WK.condF ?_ ?_; (focus (simp only [go_sem, seval, reduceCtorEq, hin, hout, q1, q2, r1, r2, r4, encZ_bits, h2, Bool.true_and]; done))) | refine WK.seq ?_ | (refine WK.reg ?_; simp only [go_sem, seval, reduceCtorEq, hin, hout, q1, q2, r1, r2, r4, encZ_bits, h2, Bool.true_and]) | (refine WK.skip ?_; simp only [go_sem, seval, reduceCtorEq, hin, hout, q1, q2, r1, r2, r4, encZ_bits, h2, Bool.true_and]) | (refine WK.ret ?_; simp only [go_sem, seval, reduceCtorEq, hin, hout, q1, q2, r1, r2, r4, encZ_bits, h2, Bool.true_and]) | (refine WK.exit ?_; simp only [go_sem, seval, reduceCtorEq, hin, hout, q1, q2, r1, r2, r4, encZ_bits, h2, Bool.true_and]) | ((with_reducible refine And.intro ?_ ?_); omega) | omega)
        | false =>
          refine callK_pureL (hT) rfl (by simp only [go_sem, seval, reduceCtorEq, hin, hout, q1, q2, r1, r2, r4, encZ_bits, encF_eq, h2]) (by simp only [go_sem, seval, reduceCtorEq, hin, hout, q1, q2, r1, r2, r4, encZ_bits, encF_eq, h2]) ?_
          simp only [go_sem, seval, reduceCtorEq, hin, hout, q1, q2, r1, r2, r4, encZ_bits, encF_eq, h2]
          try simp only [go_sem, seval, reduceCtorEq, hin, hout, q1, q2, r1, r2, r4, encZ_bits, h2, Bool.false_and]
          repeat (first | refine WK.blockSeq ?_ | refine WK.blockCond ?_ | refine WK.blockReg ?_ | (refine WK.condT ?_ ?_; (focus (simp only [go_sem, seval, reduceCtorEq, hin, hout, q1, q2, r1, r2, r4, encZ_bits, h2, Bool.false_and]; done))) | (refine WK.condF ?_ ?_; (focus (simp only [go_sem, seval, reduceCtorEq, hin, hout, q1, q2, r1, r2, r4, encZ_bits, h2, Bool.false_and]; done))) | refine WK.seq ?_ | (refine WK.reg ?_; simp only [go_sem, seval, reduceCtorEq, hin, hout, q1, q2, r1, r2, r4, encZ_bits, h2, Bool.false_and]) | (refine WK.skip ?_; simp only [go_sem, seval, reduceCtorEq, hin, hout, q1, q2, r1, r2, r4, encZ_bits, h2, Bool.false_and]) | (refine WK.ret ?_; simp only [go_sem, seval, reduceCtorEq, hin, hout, q1, q2, r1, r2, r4, encZ_bits, h2, Bool.false_and]) | (refine WK.exit ?_; simp only [go_sem, seval, reduceCtorEq, hin, hout, q1, q2, r1, r2, r4, encZ_bits, h2, Bool.false_and]) | ((with_reducible refine And.intro ?_ ?_); omega) | omega)
    · simp only [go_sem, seval, reduceCtorEq, hin, hout, q1, q2]
      have hT := true_ok (gl := gl) c.ie hc.tie d d
      cases h2 : holdsF (d : Int) (d : Int) c.ie with
      | true =>
        try simp only [go_sem, seval, reduceCtorEq, hin, hout, q1, q2, h2]
        repeat (first | refine WK.blockSeq ?_ | refine WK.blockCond ?_ | refine WK.blockReg ?_ | (refine WK.condT ?_ ?_; (focus (simp only [go_sem, seval, reduceCtorEq, hin, hout, q1, q2, h2]; done))) | (refine WK.condF ?_ ?_; (focus (simp only [go_sem, seval, reduceCtorEq, hin, hout, q1, q2, h2]; done))) | refine WK.seq ?_ | (refine WK.reg ?_; simp only [go_sem, seval, reduceCtorEq, hin, hout, q1, q2, h2]) | (refine WK.skip ?_; simp only [go_sem, seval, reduceCtorEq, hin, hout, q1, q2, h2]) | (refine WK.ret ?_; simp only [go_sem, seval, reduceCtorEq, hin, hout, q1, q2, h2]) | (refine WK.exit ?_; simp only [go_sem, seval, reduceCtorEq, hin, hout, q1, q2, h2]) | ((with_reducible refine And.intro ?_ ?_); omega) | omega)
        refine callK_pureL (hT) rfl (by simp only [go_sem, seval, reduceCtorEq, hin, hout, q1, q2, encF_eq, h2]) (by simp only [go_sem, seval, reduceCtorEq, hin, hout, q1, q2, encF_eq, h2]) ?_
        simp only [go_sem, seval, reduceCtorEq, hin, hout, q1, q2, encF_eq, h2]
        refine WK.cond _ (by simp only [go_sem, seval, reduceCtorEq, hin, hout, q1, q2]; rfl) (fun h => ?_) (fun h => ?_)
        · try simp only [go_sem, seval, reduceCtorEq, hin, hout, q1, q2]
          repeat (first | refine WK.blockSeq ?_ | refine WK.blockCond ?_ | refine WK.blockReg ?_ | (refine WK.condT ?_ ?_; (focus (simp only [go_sem, seval, reduceCtorEq, hin, hout, q1, q2]; done))) | (refine WK.condF ?_ ?_; (focus (simp only [go_sem, seval, reduceCtorEq, hin, hout, q1, q2]; done))) | refine WK.seq ?_ | (refine WK.reg ?_; simp only [go_sem, seval, reduceCtorEq, hin, hout, q1, q2]) | (refine WK.skip ?_; simp only [go_sem, seval, reduceCtorEq, hin, hout, q1, q2]) | (refine WK.ret ?_; simp only [go_sem, seval, reduceCtorEq, hin, hout, q1, q2]) | (refine WK.exit ?_; simp only [go_sem, seval, reduceCtorEq, hin, hout, q1, q2]) | ((with_reducible refine And.intro ?_ ?_); omega) | omega)
          have hz : rkeptB c a b z = false := by
            refine Bool.eq_false_iff.2 fun hk => ?_
            have := List.all_eq_true.1 hk d (List.mem_range.2 hd)
            rw [h2, h] at this
            cases this
          rw [hz]
          refine ⟨AV.le_tup ⟨.refl _, .refl _, trivial⟩, ?_⟩
          refine Cut.by' (by first | exact Nat.le_refl _ | (simp only [Sto.get_add, Sto.get_set, Sto.get_del, Sto.get_none, Sto.next_add, Sto.next_set, Sto.next_del, Sto.next_none]; omega)) (by first | exact Nat.le_refl _ | (simp only [Sto.get_add, Sto.get_set, Sto.get_del, Sto.get_none, Sto.next_add, Sto.next_set, Sto.next_del, Sto.next_none]; omega)) (fun i hi => ?_) (fun i o hi ho => ?_)
          · (try simp only [Sto.get_add, Sto.get_set, Sto.get_del, Sto.get_none, Sto.next_add, Sto.next_set, Sto.next_del, Sto.next_none] at hi ⊢); ((repeat' split) <;> first | exact .inl rfl | exact .inr rfl | omega | (simp_all; done))
          · (try simp only [Sto.get_add, Sto.get_set, Sto.get_del, Sto.get_none, Sto.next_add, Sto.next_set, Sto.next_del, Sto.next_none] at hi ho ⊢); ((repeat' split at ho) <;> (repeat' split) <;> first | (exact ⟨ho, .inl ho⟩) | (cases ho; done) | omega | (cases ho; refine ⟨rfl, .inl rfl⟩) | (cases ho; refine ⟨rfl, .inr ?_⟩; simp only [go_sem, seval, reduceCtorEq, hin, hout, q1, q2]; first | done | omega | (refine ⟨?_, ?_⟩ <;> omega)) | (simp_all; done))
        · try simp only [go_sem, seval, reduceCtorEq, hin, hout, q1, q2]
          repeat (first | refine WK.blockSeq ?_ | refine WK.blockCond ?_ | refine WK.blockReg ?_ | (refine WK.condT ?_ ?_; (focus (simp only [go_sem, seval, reduceCtorEq, hin, hout, q1, q2]; done))) | (refine WK.condF ?_ ?_; (focus (simp only [go_sem, seval, reduceCtorEq, hin, hout, q1, q2]; done))) | refine WK.seq ?_ | (refine WK.reg ?_; simp only [go_sem, seval, reduceCtorEq, hin, hout, q1, q2]) | (refine WK.skip ?_; simp only [go_sem, seval, reduceCtorEq, hin, hout, q1, q2]) | (refine WK.ret ?_; simp only [go_sem, seval, reduceCtorEq, hin, hout, q1, q2]) | (refine WK.exit ?_; simp only [go_sem, seval, reduceCtorEq, hin, hout, q1, q2]) | ((with_reducible refine And.intro ?_ ?_); omega) | omega)
          intro j hj
          rcases Nat.lt_succ_iff_lt_or_eq.1 hj with h' | rfl
          · exact hI j h'
          · rw [h2, h]; rfl
      | false =>
        try simp only [go_sem, seval, reduceCtorEq, hin, hout, q1, q2, h2]
        repeat (first | refine WK.blockSeq ?_ | refine WK.blockCond ?_ | refine WK.blockReg ?_ | (refine WK.condT ?_ ?_; (focus (simp only [go_sem, seval, reduceCtorEq, hin, hout, q1, q2, h2]; done))) | (refine WK.condF ?_ ?_; (focus (simp only [go_sem, seval, reduceCtorEq, hin, hout, q1, q2, h2]; done))) | refine WK.seq ?_ | (refine WK.reg ?_; simp only [go_sem, seval, reduceCtorEq, hin, hout, q1, q2, h2]) | (refine WK.skip ?_; simp only [go_sem, seval, reduceCtorEq, hin, hout, q1, q2, h2]) | (refine WK.ret ?_; simp only [go_sem, seval, reduceCtorEq, hin, hout, q1, q2, h2]) | (refine WK.exit ?_; simp only [go_sem, seval, reduceCtorEq, hin, hout, q1, q2, h2]) | ((with_reducible refine And.intro ?_ ?_); omega) | omega)
        refine callK_pureL (hT) rfl (by simp only [go_sem, seval, reduceCtorEq, hin, hout, q1, q2, encF_eq, h2]) (by simp only [go_sem, seval, reduceCtorEq, hin, hout, q1, q2, encF_eq, h2]) ?_
        simp only [go_sem, seval, reduceCtorEq, hin, hout, q1, q2, encF_eq, h2]
        try simp only [go_sem, seval, reduceCtorEq, hin, hout, q1, q2]
        repeat (first | refine WK.blockSeq ?_ | refine WK.blockCond ?_ | refine WK.blockReg ?_ | (refine WK.condT ?_ ?_; (focus (simp only [go_sem, seval, reduceCtorEq, hin, hout, q1, q2]; done))) | (refine WK.condF ?_ ?_; (focus (simp only [go_sem, seval, reduceCtorEq, hin, hout, q1, q2]; done))) | refine WK.seq ?_ | (refine WK.reg ?_; simp only [go_sem, seval, reduceCtorEq, hin, hout, q1, q2]) | (refine WK.skip ?_; simp only [go_sem, seval, reduceCtorEq, hin, hout, q1, q2]) | (refine WK.ret ?_; simp only [go_sem, seval, reduceCtorEq, hin, hout, q1, q2]) | (refine WK.exit ?_; simp only [go_sem, seval, reduceCtorEq, hin, hout, q1, q2]) | ((with_reducible refine And.intro ?_ ?_); omega) | omega)
        intro j hj
        rcases Nat.lt_succ_iff_lt_or_eq.1 hj with h' | rfl
        · exact hI j h'
        · rw [h2]; rfl
  · intro hI
    simp only [go_sem, seval, reduceCtorEq, hin, hout, q1, q2]
    try simp only [go_sem, seval, reduceCtorEq, hin, hout, q1, q2]
    repeat (first | refine WK.blockSeq ?_ | refine WK.blockCond ?_ | refine WK.blockReg ?_ | (refine WK.condT ?_ ?_; (focus (simp only [go_sem, seval, reduceCtorEq, hin, hout, q1, q2]; done))) | (refine WK.condF ?_ ?_; (focus (simp only [go_sem, seval, reduceCtorEq, hin, hout, q1, q2]; done))) | refine WK.seq ?_ | (refine WK.reg ?_; simp only [go_sem, seval, reduceCtorEq, hin, hout, q1, q2]) | (refine WK.skip ?_; simp only [go_sem, seval, reduceCtorEq, hin, hout, q1, q2]) | (refine WK.ret ?_; simp only [go_sem, seval, reduceCtorEq, hin, hout, q1, q2]) | (refine WK.exit ?_; simp only [go_sem, seval, reduceCtorEq, hin, hout, q1, q2]) | ((with_reducible refine And.intro ?_ ?_); omega) | omega)
    have hz : rkeptB c a b z = true := List.all_eq_true.2 fun j hj => hI j (List.mem_range.1 hj)
    rw [hz]
    refine ⟨AV.le_tup ⟨.refl _, .refl _, trivial⟩, ?_⟩
    refine Cut.by' (by first | exact Nat.le_refl _ | (simp only [Sto.get_add, Sto.get_set, Sto.get_del, Sto.get_none, Sto.next_add, Sto.next_set, Sto.next_del, Sto.next_none]; omega)) (by first | exact Nat.le_refl _ | (simp only [Sto.get_add, Sto.get_set, Sto.get_del, Sto.get_none, Sto.next_add, Sto.next_set, Sto.next_del, Sto.next_none]; omega)) (fun i hi => ?_) (fun i o hi ho => ?_)
    · (try simp only [Sto.get_add, Sto.get_set, Sto.get_del, Sto.get_none, Sto.next_add, Sto.next_set, Sto.next_del, Sto.next_none] at hi ⊢); ((repeat' split) <;> first | exact .inl rfl | exact .inr rfl | omega | (simp_all; done))
    · (try simp only [Sto.get_add, Sto.get_set, Sto.get_del, Sto.get_none, Sto.next_add, Sto.next_set, Sto.next_del, Sto.next_none] at hi ho ⊢); ((repeat' split at ho) <;> (repeat' split) <;> first | (exact ⟨ho, .inl ho⟩) | (cases ho; done) | omega | (cases ho; refine ⟨rfl, .inl rfl⟩) | (cases ho; refine ⟨rfl, .inr ?_⟩; simp only [go_sem, seval, reduceCtorEq, hin, hout, q1, q2]; first | done | omega | (refine ⟨?_, ?_⟩ <;> omega)) | (simp_all; done))
end
end Go.Sx
