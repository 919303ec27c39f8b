import Derived.Test.YtndchmmclfidgaaDoorGxW
set_option maxRecDepth 100000
set_option linter.unusedSimpArgs false
set_option linter.unusedVariables false
set_option linter.unnecessarySimpa false
namespace Go.Sx
open Go Go.Lg Go.Proofs

theorem tab_ok {c : Ct} {a b : Nat} (h : CtOK c a b) : TbOK (tab c a b) := by
  have p1 := pow2_le 3 h.a3
  have p3 := pow2_le (a := a + b) 6 (by have := h.a3; have := h.b3; omega)
  refine ⟨by simp only [tab]; omega, by simp only [tab, List.length_map, List.length_range]; omega, fun row hr => ?_, ?_, ?_⟩
  · simp only [tab] at hr
    obtain ⟨l, _, rfl⟩ := List.mem_map.1 hr
    simp only [rowT, List.length_map, List.length_range]; omega
  · have := h.jel
    simp only [tab, setsL, List.length_map, orTrue]
    split
    · simp
    · omega
  · have := h.jsl
    simp only [tab, setsL, List.length_map, orTrue]
    split
    · simp
    · omega
/-- A set of letters as a list. -/
def bitsL (n : Nat) (z : BitVec 64) : List Bool := (List.range n).map fun l => z.getLsbD l
def encBs (l : List Bool) : AV := .list false (l.map AV.bool)
theorem belE_bools {m : Nat} (l : List Bool) : BelE m (l.map AV.bool) = True := eq_true (belE_map (fun _ => .bool _) l)
attribute [go_sem] belE_bools

section
variable {gl : GL} (har : gl.at' 0 = arityA)
include har
theorem won_yes (c : Ct) (a b : Nat) (hs : ShrtC c) (hv : validC c = true) (hc : CtOK c a b) (hst : Stab (tab c a b)) : PCall (C gl) 17 [encC c] (.tup [encBs (bitsL (2 ^ (a + b)) (wonB (tab c a b))), .int .i64 0]) := by
  refine pcallX (callX_of b17 (by simp [Tryd.ntmps17]) ?_) (by simp only [AllCl, cl_encC, and_true]) (by simp only [cl_tup, AllCl, encBs, cl_list, cl_int, and_true]; exact clE_map (fun _ => .bool _) _)
  have p3 := pow2_le (a := a + b) 6 (by have := hc.a3; have := hc.b3; omega)
  have hn : (tab c a b).n = 2 ^ (a + b) := rfl
  have ht := tab_ok hc
  have hT := fun σ => tableOf_ok (gl := gl) c a b σ hc
  generalize tab c a b = t at *
  generalize 2 ^ (a + b) = n at *
  refine W.of ?_
  rw [Tryd.ntmps17]
  simp only [toK, codeOf, Tryd.f17, go_sem, seval, reduceCtorEq]
  try simp only [go_sem, seval, reduceCtorEq]
  repeat (first | refine WK.blockSeq ?_ | refine WK.blockCond ?_ | refine WK.blockReg ?_ | (refine WK.condT ?_ ?_; (focus (simp only [go_sem, seval, reduceCtorEq]; done))) | (refine WK.condF ?_ ?_; (focus (simp only [go_sem, seval, reduceCtorEq]; done))) | refine WK.seq ?_ | ((first | refine WK.reg ?_ | refine WK.skip ?_ | refine WK.ret ?_ | refine WK.exit ?_); simp only [go_sem, seval, reduceCtorEq]) | ((with_reducible refine And.intro ?_ ?_); omega) | omega)
  refine callK_pureL (gvalid_ok (gl := gl) har c hs) rfl ?_ ?_ ?_ <;> simp only [go_sem, seval, reduceCtorEq]
  try simp only [go_sem, seval, reduceCtorEq, hv]
  repeat (first | refine WK.blockSeq ?_ | refine WK.blockCond ?_ | refine WK.blockReg ?_ | (refine WK.condT ?_ ?_; (focus (simp only [go_sem, seval, reduceCtorEq, hv]; done))) | (refine WK.condF ?_ ?_; (focus (simp only [go_sem, seval, reduceCtorEq, hv]; done))) | refine WK.seq ?_ | ((first | refine WK.reg ?_ | refine WK.skip ?_ | refine WK.ret ?_ | refine WK.exit ?_); simp only [go_sem, seval, reduceCtorEq, hv]) | ((with_reducible refine And.intro ?_ ?_); omega) | omega)
  refine callK_x0 (hT _) rfl ?_ ?_ ?_ <;> simp only [go_sem, seval, reduceCtorEq]
  try simp only [go_sem, seval, reduceCtorEq]
  repeat (first | refine WK.blockSeq ?_ | refine WK.blockCond ?_ | refine WK.blockReg ?_ | (refine WK.condT ?_ ?_; (focus (simp only [go_sem, seval, reduceCtorEq]; done))) | (refine WK.condF ?_ ?_; (focus (simp only [go_sem, seval, reduceCtorEq]; done))) | refine WK.seq ?_ | ((first | refine WK.reg ?_ | refine WK.skip ?_ | refine WK.ret ?_ | refine WK.exit ?_); simp only [go_sem, seval, reduceCtorEq]) | ((with_reducible refine And.intro ?_ ?_); omega) | omega)
  refine callK_x0 (won_ok 2 t _ ht hst (by simp only [go_sem, seval, reduceCtorEq]; first | done | omega) (by simp only [go_sem, seval, reduceCtorEq]; first | done | omega)) rfl ?_ ?_ ?_ <;> simp only [go_sem, seval, reduceCtorEq]
  try simp only [go_sem, seval, reduceCtorEq, hn]
  repeat (first | refine WK.blockSeq ?_ | refine WK.blockCond ?_ | refine WK.blockReg ?_ | (refine WK.condT ?_ ?_; (focus (simp only [go_sem, seval, reduceCtorEq, hn]; done))) | (refine WK.condF ?_ ?_; (focus (simp only [go_sem, seval, reduceCtorEq, hn]; done))) | refine WK.seq ?_ | ((first | refine WK.reg ?_ | refine WK.skip ?_ | refine WK.ret ?_ | refine WK.exit ?_); simp only [go_sem, seval, reduceCtorEq, hn]) | ((with_reducible refine And.intro ?_ ?_); omega) | omega)
  refine WK.rangeX (n) [4, 5, 6] [] (fun i => []) (fun i => (((Sto.none.add (.box (ctCells c))).add (.box (ctCells c))).add (.box (tbCells t))).add (.row 1 ((List.range i).map (fun l => .bool ((wonB t).getLsbD l)) ++ List.replicate (n - i) (.bool false)) false)) (by omega) (by decide) (by simp only [go_sem, seval, reduceCtorEq, hn, map_range0, Nat.sub_zero]) (by simp only [go_sem, seval, reduceCtorEq, hn, map_range0, Nat.sub_zero]) (by simp only [go_sem, seval, reduceCtorEq, hn, map_range0, Nat.sub_zero, List.take_zero]) (by first | rfl | (simp only [go_sem, seval, reduceCtorEq, hn, map_range0, Nat.sub_zero]; done) | (refine Sto.ext' (by simp only [go_sem, seval, reduceCtorEq, hn, map_range0, Nat.sub_zero]) (fun i => ?_); simp only [go_sem, seval, reduceCtorEq, hn, map_range0, Nat.sub_zero]; repeat' split; all_goals (first | rfl | omega | simp_all))) ?_ ?_
  · intro i hi
    simp only [go_sem, seval, reduceCtorEq, hn]
    try simp only [go_sem, seval, reduceCtorEq, hn]
    repeat (first | refine WK.blockSeq ?_ | refine WK.blockCond ?_ | refine WK.blockReg ?_ | (refine WK.condT ?_ ?_; (focus (simp only [go_sem, seval, reduceCtorEq, hn]; done))) | (refine WK.condF ?_ ?_; (focus (simp only [go_sem, seval, reduceCtorEq, hn]; done))) | refine WK.seq ?_ | ((first | refine WK.reg ?_ | refine WK.skip ?_ | refine WK.ret ?_ | refine WK.exit ?_); simp only [go_sem, seval, reduceCtorEq, hn]) | ((with_reducible refine And.intro ?_ ?_); omega) | omega)
    have e : ((List.range i).map (fun l => AV.bool ((wonB t).getLsbD l)) ++ List.replicate (n - i) (AV.bool false)).length = n := by simp; omega
    have e2 := set_fill (fun l => AV.bool ((wonB t).getLsbD l)) (AV.bool false) n i hi
    rw [List.range_succ] at e2
    refine ⟨by rw [e]; exact hi, ?_⟩
    rw [e2]
    refine Cut.by' (by first | exact Nat.le_refl _ | (simp only [Sto.get_add, Sto.get_set, Sto.get_del, Sto.get_none, Sto.next_add, Sto.next_set, Sto.next_del, Sto.next_none]; omega)) (by first | exact Nat.le_refl _ | (simp only [Sto.get_add, Sto.get_set, Sto.get_del, Sto.get_none, Sto.next_add, Sto.next_set, Sto.next_del, Sto.next_none]; omega)) (fun i hi => ?_) (fun i o hi ho => ?_)
    · (try simp only [Sto.get_add, Sto.get_set, Sto.get_del, Sto.get_none, Sto.next_add, Sto.next_set, Sto.next_del, Sto.next_none] at hi ⊢); ((repeat' split) <;> first | exact .inl rfl | exact .inr rfl | omega | (simp_all; done))
    · (try simp only [Sto.get_add, Sto.get_set, Sto.get_del, Sto.get_none, Sto.next_add, Sto.next_set, Sto.next_del, Sto.next_none] at hi ho ⊢); ((repeat' split at ho) <;> (repeat' split) <;> first | (exact ⟨ho, .inl ho⟩) | (cases ho; done) | omega | (cases ho; refine ⟨rfl, .inl rfl⟩) | (cases ho; refine ⟨rfl, .inr ?_⟩; simp only [go_sem, seval, reduceCtorEq, hn]; first | done | omega | (refine ⟨?_, ?_⟩ <;> omega)) | (simp_all; done))
  · simp only [go_sem, seval, reduceCtorEq, hn]
    have e : ((List.range n).map (fun l => AV.bool ((wonB t).getLsbD l)) ++ List.replicate (n - n) (AV.bool false)) = (List.range n).map (fun l => AV.bool ((wonB t).getLsbD l)) := by simp
    rw [e]
    refine WK.freeze 3 (by simp only [go_sem, seval, reduceCtorEq]; rfl) ?_
    try simp only [go_sem, seval, reduceCtorEq, hn]
    repeat (first | refine WK.blockSeq ?_ | refine WK.blockCond ?_ | refine WK.blockReg ?_ | (refine WK.condT ?_ ?_; (focus (simp only [go_sem, seval, reduceCtorEq, hn]; done))) | (refine WK.condF ?_ ?_; (focus (simp only [go_sem, seval, reduceCtorEq, hn]; done))) | refine WK.seq ?_ | ((first | refine WK.reg ?_ | refine WK.skip ?_ | refine WK.ret ?_ | refine WK.exit ?_); simp only [go_sem, seval, reduceCtorEq, hn]) | ((with_reducible refine And.intro ?_ ?_); omega) | omega)
    refine ⟨⟨AV.le_tup ⟨?_, .refl _, trivial⟩, ?_⟩, ?_⟩
    · rw [if_pos (by simp), List.take_of_length_le (by simp), encBs, bitsL, List.map_map]
      exact .refl _
    · simp only [encBs, go_sem, seval, reduceCtorEq]
    refine Cut.by' (by first | exact Nat.le_refl _ | (simp only [Sto.get_add, Sto.get_set, Sto.get_del, Sto.get_none, Sto.next_add, Sto.next_set, Sto.next_del, Sto.next_none]; omega)) (by first | exact Nat.le_refl _ | (simp only [Sto.get_add, Sto.get_set, Sto.get_del, Sto.get_none, Sto.next_add, Sto.next_set, Sto.next_del, Sto.next_none]; omega)) (fun i hi => ?_) (fun i o hi ho => ?_)
    · (try simp only [Sto.get_add, Sto.get_set, Sto.get_del, Sto.get_none, Sto.next_add, Sto.next_set, Sto.next_del, Sto.next_none] at hi ⊢); ((repeat' split) <;> first | exact .inl rfl | exact .inr rfl | omega | (simp_all; done))
    · (try simp only [Sto.get_add, Sto.get_set, Sto.get_del, Sto.get_none, Sto.next_add, Sto.next_set, Sto.next_del, Sto.next_none] at hi ho ⊢); ((repeat' split at ho) <;> (repeat' split) <;> first | (exact ⟨ho, .inl ho⟩) | (cases ho; done) | omega | (cases ho; refine ⟨rfl, .inl rfl⟩) | (cases ho; refine ⟨rfl, .inr ?_⟩; simp only [go_sem, seval, reduceCtorEq, hn]; first | done | omega | (refine ⟨?_, ?_⟩ <;> omega)) | (simp_all; done))
theorem gkept_yes (c : Ct) (a b : Nat) (hs : ShrtC c) (hv : validC c = true) (hc : CtOK c a b) (hst : Stab (tab c a b)) : PCall (C gl) 19 [encC c] (.tup [.bool (keptB c a b (wonB (tab c a b))), .int .i64 0]) := by
  refine pcallX (callX_of b19 (by simp [Tryd.ntmps19]) ?_) (by simp only [AllCl, cl_encC, and_true]) (by simp only [cl_tup, AllCl, cl_bool, cl_int, and_true])
  have ht := tab_ok hc
  have hT := fun σ => tableOf_ok (gl := gl) c a b σ hc
  have hk : CtOK (tab c a b).c a b := hc
  have hke : keptB (tab c a b).c a b (wonB (tab c a b)) = keptB c a b (wonB (tab c a b)) := rfl
  rw [← hke]
  generalize tab c a b = t at *
  refine W.of ?_
  rw [Tryd.ntmps19]
  simp only [toK, codeOf, Tryd.f19, go_sem, seval, reduceCtorEq]
  try simp only [go_sem, seval, reduceCtorEq]
  repeat (first | refine WK.blockSeq ?_ | refine WK.blockCond ?_ | refine WK.blockReg ?_ | (refine WK.condT ?_ ?_; (focus (simp only [go_sem, seval, reduceCtorEq]; done))) | (refine WK.condF ?_ ?_; (focus (simp only [go_sem, seval, reduceCtorEq]; done))) | refine WK.seq ?_ | ((first | refine WK.reg ?_ | refine WK.skip ?_ | refine WK.ret ?_ | refine WK.exit ?_); simp only [go_sem, seval, reduceCtorEq]) | ((with_reducible refine And.intro ?_ ?_); omega) | omega)
  refine callK_pureL (gvalid_ok (gl := gl) har c hs) rfl ?_ ?_ ?_ <;> simp only [go_sem, seval, reduceCtorEq]
  try simp only [go_sem, seval, reduceCtorEq, hv]
  repeat (first | refine WK.blockSeq ?_ | refine WK.blockCond ?_ | refine WK.blockReg ?_ | (refine WK.condT ?_ ?_; (focus (simp only [go_sem, seval, reduceCtorEq, hv]; done))) | (refine WK.condF ?_ ?_; (focus (simp only [go_sem, seval, reduceCtorEq, hv]; done))) | refine WK.seq ?_ | ((first | refine WK.reg ?_ | refine WK.skip ?_ | refine WK.ret ?_ | refine WK.exit ?_); simp only [go_sem, seval, reduceCtorEq, hv]) | ((with_reducible refine And.intro ?_ ?_); omega) | omega)
  refine callK_x0 (hT _) rfl ?_ ?_ ?_ <;> simp only [go_sem, seval, reduceCtorEq]
  try simp only [go_sem, seval, reduceCtorEq]
  repeat (first | refine WK.blockSeq ?_ | refine WK.blockCond ?_ | refine WK.blockReg ?_ | (refine WK.condT ?_ ?_; (focus (simp only [go_sem, seval, reduceCtorEq]; done))) | (refine WK.condF ?_ ?_; (focus (simp only [go_sem, seval, reduceCtorEq]; done))) | refine WK.seq ?_ | ((first | refine WK.reg ?_ | refine WK.skip ?_ | refine WK.ret ?_ | refine WK.exit ?_); simp only [go_sem, seval, reduceCtorEq]) | ((with_reducible refine And.intro ?_ ?_); omega) | omega)
  refine callK_x0 (won_ok 2 t _ ht hst (by simp only [go_sem, seval, reduceCtorEq]; first | done | omega) (by simp only [go_sem, seval, reduceCtorEq]; first | done | omega)) rfl ?_ ?_ ?_ <;> simp only [go_sem, seval, reduceCtorEq]
  try simp only [go_sem, seval, reduceCtorEq]
  repeat (first | refine WK.blockSeq ?_ | refine WK.blockCond ?_ | refine WK.blockReg ?_ | (refine WK.condT ?_ ?_; (focus (simp only [go_sem, seval, reduceCtorEq]; done))) | (refine WK.condF ?_ ?_; (focus (simp only [go_sem, seval, reduceCtorEq]; done))) | refine WK.seq ?_ | ((first | refine WK.reg ?_ | refine WK.skip ?_ | refine WK.ret ?_ | refine WK.exit ?_); simp only [go_sem, seval, reduceCtorEq]) | ((with_reducible refine And.intro ?_ ?_); omega) | omega)
  refine callK_x0 (kept_ok 2 t a b (wonB t) _ hk (by simp only [go_sem, seval, reduceCtorEq]; first | done | omega)) rfl ?_ ?_ ?_ <;> simp only [go_sem, seval, reduceCtorEq]
  try simp only [go_sem, seval, reduceCtorEq]
  repeat (first | refine WK.blockSeq ?_ | refine WK.blockCond ?_ | refine WK.blockReg ?_ | (refine WK.condT ?_ ?_; (focus (simp only [go_sem, seval, reduceCtorEq]; done))) | (refine WK.condF ?_ ?_; (focus (simp only [go_sem, seval, reduceCtorEq]; done))) | refine WK.seq ?_ | ((first | refine WK.reg ?_ | refine WK.skip ?_ | refine WK.ret ?_ | refine WK.exit ?_); simp only [go_sem, seval, reduceCtorEq]) | ((with_reducible refine And.intro ?_ ?_); omega) | omega)
  refine Cut.by' (by first | exact Nat.le_refl _ | (simp only [Sto.get_add, Sto.get_set, Sto.get_del, Sto.get_none, Sto.next_add, Sto.next_set, Sto.next_del, Sto.next_none]; omega)) (by first | exact Nat.le_refl _ | (simp only [Sto.get_add, Sto.get_set, Sto.get_del, Sto.get_none, Sto.next_add, Sto.next_set, Sto.next_del, Sto.next_none]; omega)) (fun i hi => ?_) (fun i o hi ho => ?_)
  · (try simp only [Sto.get_add, Sto.get_set, Sto.get_del, Sto.get_none, Sto.next_add, Sto.next_set, Sto.next_del, Sto.next_none] at hi ⊢); ((repeat' split) <;> first | exact .inl rfl | exact .inr rfl | omega | (simp_all; done))
  · (try simp only [Sto.get_add, Sto.get_set, Sto.get_del, Sto.get_none, Sto.next_add, Sto.next_set, Sto.next_del, Sto.next_none] at hi ho ⊢); ((repeat' split at ho) <;> (repeat' split) <;> first | (exact ⟨ho, .inl ho⟩) | (cases ho; done) | omega | (cases ho; refine ⟨rfl, .inl rfl⟩) | (cases ho; refine ⟨rfl, .inr ?_⟩; simp only [go_sem, seval, reduceCtorEq]; first | done | omega | (refine ⟨?_, ?_⟩ <;> omega)) | (simp_all; done))
end
end Go.Sx
