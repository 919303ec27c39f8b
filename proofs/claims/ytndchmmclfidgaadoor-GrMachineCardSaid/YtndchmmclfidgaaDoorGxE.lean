import Derived.Test.YtndchmmclfidgaaDoorGxW
set_option maxRecDepth 100000
set_option linter.unusedSimpArgs false
set_option linter.unusedVariables false
set_option linter.unnecessarySimpa false
namespace Go.Sx
open Go Go.Lg Go.Proofs
theorem tab_ok {c : Ct} {a b : Nat} (h : CtOK c a b) : TbOK (tab c a b) := by
  have p1 := pow2_le 3 h.a3
  have p3 := pow2_le (a := a + b) 6 (by have := h.a3; have := h.b3; omega)
  refine ⟨by simp only [tab]; omega, by simp only [tab, List.length_map, List.length_range]; omega, fun row hr => ?_, ?_, ?_⟩
  · simp only [tab] at hr
    obtain ⟨l, _, rfl⟩ := List.mem_map.1 hr
    simp only [rowT, List.length_map, List.length_range]; omega
  · have := h.jel
    simp only [tab, setsL, List.length_map, orTrue]
    split
    · simp
    · omega
  · have := h.jsl
    simp only [tab, setsL, List.length_map, orTrue]
    split
    · simp
    · omega
def bitsL (n : Nat) (z : BitVec 64) : List Bool := (List.range n).map fun l => z.getLsbD l
def encBs (l : List Bool) : AV := .list false (l.map AV.bool)
theorem belE_bools {m : Nat} (l : List Bool) : BelE m (l.map AV.bool) = True := eq_true (belE_map (fun _ => .bool _) l)
attribute [go_sem] belE_bools
section
variable {gl : GL} (har : gl.at' 0 = arityA)
include har
theorem gkept_no (c : Ct) (hs : ShrtC c) (hv : validC c = false) : PCall (C gl) 19 [encC c] (.tup [.bool false, .int .i64 1]) := by
  refine pcallX (callX_of b19 (by simp [Tryd.ntmps19]) ?_) (by simp only [AllCl, cl_encC, and_true]) (by simp only [cl_tup, AllCl, cl_bool, cl_int, and_true])
  refine W.of ?_
  rw [Tryd.ntmps19]
  simp only [toK, codeOf, Tryd.f19, go_sem, seval, reduceCtorEq]
  try simp only [go_sem, seval, reduceCtorEq]
  repeat (first | refine WK.blockSeq ?_ | refine WK.blockCond ?_ | refine WK.blockReg ?_ | (refine WK.condT ?_ ?_; (focus (simp only [go_sem, seval, reduceCtorEq]; done))) | (refine WK.condF ?_ ?_; (focus (simp only [go_sem, seval, reduceCtorEq]; done))) | refine WK.seq ?_ | ((first | refine WK.reg ?_ | refine WK.skip ?_ | refine WK.ret ?_ | refine WK.exit ?_); simp only [go_sem, seval, reduceCtorEq]) | ((with_reducible refine And.intro ?_ ?_); omega) | omega)
  refine callK_pureL (gvalid_ok (gl := gl) har c hs) rfl ?_ ?_ ?_ <;> simp only [go_sem, seval, reduceCtorEq]
  try simp only [go_sem, seval, reduceCtorEq, hv]
  repeat (first | refine WK.blockSeq ?_ | refine WK.blockCond ?_ | refine WK.blockReg ?_ | (refine WK.condT ?_ ?_; (focus (simp only [go_sem, seval, reduceCtorEq, hv]; done))) | (refine WK.condF ?_ ?_; (focus (simp only [go_sem, seval, reduceCtorEq, hv]; done))) | refine WK.seq ?_ | ((first | refine WK.reg ?_ | refine WK.skip ?_ | refine WK.ret ?_ | refine WK.exit ?_); simp only [go_sem, seval, reduceCtorEq, hv]) | ((with_reducible refine And.intro ?_ ?_); omega) | omega)
  refine Cut.by' (by first | exact Nat.le_refl _ | (simp only [Sto.get_add, Sto.get_set, Sto.get_del, Sto.get_none, Sto.next_add, Sto.next_set, Sto.next_del, Sto.next_none]; omega)) (by first | exact Nat.le_refl _ | (simp only [Sto.get_add, Sto.get_set, Sto.get_del, Sto.get_none, Sto.next_add, Sto.next_set, Sto.next_del, Sto.next_none]; omega)) (fun i hi => ?_) (fun i o hi ho => ?_)
  · (try simp only [Sto.get_add, Sto.get_set, Sto.get_del, Sto.get_none, Sto.next_add, Sto.next_set, Sto.next_del, Sto.next_none] at hi ⊢); ((repeat' split) <;> first | exact .inl rfl | exact .inr rfl | omega | (simp_all; done))
  · (try simp only [Sto.get_add, Sto.get_set, Sto.get_del, Sto.get_none, Sto.next_add, Sto.next_set, Sto.next_del, Sto.next_none] at hi ho ⊢); ((repeat' split at ho) <;> (repeat' split) <;> first | (exact ⟨ho, .inl ho⟩) | (cases ho; done) | omega | (cases ho; refine ⟨rfl, .inl rfl⟩) | (cases ho; refine ⟨rfl, .inr ?_⟩; simp only [go_sem, seval, reduceCtorEq]; first | done | omega | (refine ⟨?_, ?_⟩ <;> omega)) | (simp_all; done))
theorem gkept_yes (c : Ct) (a b : Nat) (hs : ShrtC c) (hv : validC c = true) (hc : CtOK c a b) (hst : Stab (tab c a b)) : PCall (C gl) 19 [encC c] (.tup [.bool (keptB c a b (wonB (tab c a b))), .int .i64 0]) := by
  refine pcallX (callX_of b19 (by simp [Tryd.ntmps19]) ?_) (by simp only [AllCl, cl_encC, and_true]) (by simp only [cl_tup, AllCl, cl_bool, cl_int, and_true])
  have ht := tab_ok hc
  have hT := fun σ => tableOf_ok (gl := gl) c a b σ hc
  have hk : CtOK (tab c a b).c a b := hc
  have hke : keptB (tab c a b).c a b (wonB (tab c a b)) = keptB c a b (wonB (tab c a b)) := rfl
  rw [← hke]
  generalize tab c a b = t at *
  refine W.of ?_
  rw [Tryd.ntmps19]
  simp only [toK, codeOf, Tryd.f19, go_sem, seval, reduceCtorEq]
  try simp only [go_sem, seval, reduceCtorEq]
  repeat (first | refine WK.blockSeq ?_ | refine WK.blockCond ?_ | refine WK.blockReg ?_ | (refine WK.condT ?_ ?_; (focus (simp only [go_sem, seval, reduceCtorEq]; done))) | (refine WK.condF ?_ ?_; (focus (simp only [go_sem, seval, reduceCtorEq]; done))) | refine WK.seq ?_ | ((first | refine WK.reg ?_ | refine WK.skip ?_ | refine WK.ret ?_ | refine WK.exit ?_); simp only [go_sem, seval, reduceCtorEq]) | ((with_reducible refine And.intro ?_ ?_); omega) | omega)
  refine callK_pureL (gvalid_ok (gl := gl) har c hs) rfl ?_ ?_ ?_ <;> simp only [go_sem, seval, reduceCtorEq]
  try simp only [go_sem, seval, reduceCtorEq, hv]
  repeat (first | refine WK.blockSeq ?_ | refine WK.blockCond ?_ | refine WK.blockReg ?_ | (refine WK.condT ?_ ?_; (focus (simp only [go_sem, seval, reduceCtorEq, hv]; done))) | (refine WK.condF ?_ ?_; (focus (simp only [go_sem, seval, reduceCtorEq, hv]; done))) | refine WK.seq ?_ | ((first | refine WK.reg ?_ | refine WK.skip ?_ | refine WK.ret ?_ | refine WK.exit ?_); simp only [go_sem, seval, reduceCtorEq, hv]) | ((with_reducible refine And.intro ?_ ?_); omega) | omega)
  refine callK_x0 (hT _) rfl ?_ ?_ ?_ <;> simp only [go_sem, seval, reduceCtorEq]
  try simp only [go_sem, seval, reduceCtorEq]
  repeat (first | refine WK.blockSeq ?_ | refine WK.blockCond ?_ | refine WK.blockReg ?_ | (refine WK.condT ?_ ?_; (focus (simp only [go_sem, seval, reduceCtorEq]; done))) | (refine WK.condF ?_ ?_; (focus (simp only [go_sem, seval, reduceCtorEq]; done))) | refine WK.seq ?_ | ((first | refine WK.reg ?_ | refine WK.skip ?_ | refine WK.ret ?_ | refine WK.exit ?_); simp only [go_sem, seval, reduceCtorEq]) | ((with_reducible refine And.intro ?_ ?_); omega) | omega)
  refine callK_x0 (won_ok 2 t _ ht hst (by simp only [go_sem, seval, reduceCtorEq]; first | done | omega) (by simp only [go_sem, seval, reduceCtorEq]; first | done | omega)) rfl ?_ ?_ ?_ <;> simp only [go_sem, seval, reduceCtorEq]
  try simp only [go_sem, seval, reduceCtorEq]
  repeat (first | refine WK.blockSeq ?_ | refine WK.blockCond ?_ | refine WK.blockReg ?_ | (refine WK.condT ?_ ?_; (focus (simp only [go_sem, seval, reduceCtorEq]; done))) | (refine WK.condF ?_ ?_; (focus (simp only [go_sem, seval, reduceCtorEq]; done))) | refine WK.seq ?_ | ((first | refine WK.reg ?_ | refine WK.skip ?_ | refine WK.ret ?_ | refine WK.exit ?_); simp only [go_sem, seval, reduceCtorEq]) | ((with_reducible refine And.intro ?_ ?_); omega) | omega)
  refine callK_x0 (kept_ok 2 t a b (wonB t) _ hk (by simp only [go_sem, seval, reduceCtorEq]; first | done | omega)) rfl ?_ ?_ ?_ <;> simp only [go_sem, seval, reduceCtorEq]
  try simp only [go_sem, seval, reduceCtorEq]
  repeat (first | refine WK.blockSeq ?_ | refine WK.blockCond ?_ | refine WK.blockReg ?_ | (refine WK.condT ?_ ?_; (focus (simp only [go_sem, seval, reduceCtorEq]; done))) | (refine WK.condF ?_ ?_; (focus (simp only [go_sem, seval, reduceCtorEq]; done))) | refine WK.seq ?_ | ((first | refine WK.reg ?_ | refine WK.skip ?_ | refine WK.ret ?_ | refine WK.exit ?_); simp only [go_sem, seval, reduceCtorEq]) | ((with_reducible refine And.intro ?_ ?_); omega) | omega)
  refine Cut.by' (by first | exact Nat.le_refl _ | (simp only [Sto.get_add, Sto.get_set, Sto.get_del, Sto.get_none, Sto.next_add, Sto.next_set, Sto.next_del, Sto.next_none]; omega)) (by first | exact Nat.le_refl _ | (simp only [Sto.get_add, Sto.get_set, Sto.get_del, Sto.get_none, Sto.next_add, Sto.next_set, Sto.next_del, Sto.next_none]; omega)) (fun i hi => ?_) (fun i o hi ho => ?_)
  · (try simp only [Sto.get_add, Sto.get_set, Sto.get_del, Sto.get_none, Sto.next_add, Sto.next_set, Sto.next_del, Sto.next_none] at hi ⊢); ((repeat' split) <;> first | exact .inl rfl | exact .inr rfl | omega | (simp_all; done))
  · (try simp only [Sto.get_add, Sto.get_set, Sto.get_del, Sto.get_none, Sto.next_add, Sto.next_set, Sto.next_del, Sto.next_none] at hi ho ⊢); ((repeat' split at ho) <;> (repeat' split) <;> first | (exact ⟨ho, .inl ho⟩) | (cases ho; done) | omega | (cases ho; refine ⟨rfl, .inl rfl⟩) | (cases ho; refine ⟨rfl, .inr ?_⟩; simp only [go_sem, seval, reduceCtorEq]; first | done | omega | (refine ⟨?_, ?_⟩ <;> omega)) | (simp_all; done))
end
end Go.Sx
