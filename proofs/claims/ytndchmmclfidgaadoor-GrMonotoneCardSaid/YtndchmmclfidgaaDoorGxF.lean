import Derived.Test.YtndchmmclfidgaaDoorGxE
set_option maxRecDepth 100000
set_option linter.unusedSimpArgs false
set_option linter.unusedVariables false
set_option linter.unnecessarySimpa false
namespace Go.Sx
open Go Go.Lg Go.Proofs
theorem b139 {gl : GL} : Body (C gl).P 139 Tryd.f139 (codeOf Tryd.f139) := ⟨Tryd.func139, by kernel_rfl, by kernel_rfl⟩
theorem b136 {gl : GL} : Body (C gl).P 136 Tryd.f136 (codeOf Tryd.f136) := ⟨Tryd.func136, by kernel_rfl, by kernel_rfl⟩
theorem b137 {gl : GL} : Body (C gl).P 137 Tryd.f137 (codeOf Tryd.f137) := ⟨Tryd.func137, by kernel_rfl, by kernel_rfl⟩
theorem b206 {gl : GL} : Body (C gl).P 206 Tryd.f206 (codeOf Tryd.f206) := ⟨Tryd.func206, by kernel_rfl, by kernel_rfl⟩

/-- A set of letters as the reference keeps it. -/
def encZ (n : Nat) (z : BitVec 64) : AV := .list false ((List.range n).map fun l => .bool (z.getLsbD l))
theorem encZ_eq (n : Nat) (z : BitVec 64) : encZ n z = .list false ((List.range n).map fun l => .bool (z.getLsbD l)) := rfl
theorem belE_bits {m : Nat} (f : Nat → Bool) (l : List Nat) : BelE m (l.map fun l => .bool (f l)) = True := eq_true (belE_map (fun _ => .bool _) l)
theorem clE_bits (f : Nat → Bool) (l : List Nat) : ClE (l.map fun l => .bool (f l)) = True := eq_true (clE_map (fun _ => .bool _) l)
theorem okes_bits (f : Nat → Bool) (l : List Nat) : OKEs 1 (l.map fun l => .bool (f l)) = True := eq_true (okes_map fun _ => ⟨rfl, rfl⟩)
theorem cl_encZ (n : Nat) (z : BitVec 64) : Closed (encZ n z) = True := by simp only [encZ, cl_list, clE_bits]
attribute [go_sem] belE_bits clE_bits okes_bits cl_encZ
theorem range_getD (f : Nat → AV) {n i : Nat} (h : i < n) : ((List.range n).map f).getD i .undef = f i := by simp [List.getD, h]
/-- No letters past n. -/
def Low (n : Nat) (z : BitVec 64) : Prop := ∀ i, n ≤ i → z.getLsbD i = false
theorem Low.eq {n : Nat} {z w : BitVec 64} (hz : Low n z) (hw : Low n w) (h : ∀ i < n, z.getLsbD i = w.getLsbD i) : z = w := by
  apply BitVec.eq_of_getLsbD_eq
  intro i _
  by_cases hi : i < n
  · exact h i hi
  · rw [hz i (by omega), hw i (by omega)]

section
variable {gl : GL}
theorem same_ok (n : Nat) (z w : BitVec 64) (hn : n ≤ 64) (hz : Low n z) (hw : Low n w) : PCall (C gl) 139 [encZ n z, encZ n w] (.bool (z == w)) := by
  refine pcallX (callX_of b139 (by simp [Tryd.ntmps139]) ?_) (by simp only [AllCl, cl_encZ, and_true]) (.bool _)
  refine W.of ?_
  rw [Tryd.ntmps139]
  simp only [toK, codeOf, Tryd.f139, go_sem, seval, reduceCtorEq]
  try simp only [go_sem, seval, reduceCtorEq, encZ_eq, List.length_map, List.length_range]
  repeat (first | refine WK.blockSeq ?_ | refine WK.blockCond ?_ | refine WK.blockReg ?_ | (refine WK.condT ?_ ?_; (focus (simp only [go_sem, seval, reduceCtorEq, encZ_eq, List.length_map, List.length_range]; done))) | (refine WK.condF ?_ ?_; (focus (simp only [go_sem, seval, reduceCtorEq, encZ_eq, List.length_map, List.length_range]; done))) | refine WK.seq ?_ | (refine WK.reg ?_; simp only [go_sem, seval, reduceCtorEq, encZ_eq, List.length_map, List.length_range]) | (refine WK.skip ?_; simp only [go_sem, seval, reduceCtorEq, encZ_eq, List.length_map, List.length_range]) | (refine WK.ret ?_; simp only [go_sem, seval, reduceCtorEq, encZ_eq, List.length_map, List.length_range]) | (refine WK.exit ?_; simp only [go_sem, seval, reduceCtorEq, encZ_eq, List.length_map, List.length_range]) | ((with_reducible refine And.intro ?_ ?_); omega) | omega)
  refine WK.rangeI (n) [0, 1] [] (fun i => []) (fun i => Sto.none) (fun i => ∀ j < i, z.getLsbD j = w.getLsbD j) (by simp) (by omega) (by decide) (by simp only [go_sem, seval, reduceCtorEq, List.length_map, List.length_range]) (by simp only [go_sem, seval, reduceCtorEq, List.length_map, List.length_range]) (by simp only [go_sem, seval, reduceCtorEq, List.length_map, List.length_range, List.take_zero]) (by first | rfl | (simp only [go_sem, seval, reduceCtorEq, List.length_map, List.length_range]; done) | (refine Sto.ext' (by simp only [go_sem, seval, reduceCtorEq, List.length_map, List.length_range]) (fun i => ?_); simp only [go_sem, seval, reduceCtorEq, List.length_map, List.length_range]; repeat' split; all_goals (first | rfl | omega | simp_all))) ?_ ?_
  · intro i hi hI
    have e1 := range_getD (fun l => AV.bool (z.getLsbD l)) hi
    have e2 := range_getD (fun l => AV.bool (w.getLsbD l)) hi
    simp only [go_sem, seval, reduceCtorEq, e1, e2, List.length_map, List.length_range]
    try simp only [go_sem, seval, reduceCtorEq, e1, e2, List.length_map, List.length_range]
    repeat (first | refine WK.blockSeq ?_ | refine WK.blockCond ?_ | refine WK.blockReg ?_ | (refine WK.condT ?_ ?_; (focus (simp only [go_sem, seval, reduceCtorEq, e1, e2, List.length_map, List.length_range]; done))) | (refine WK.condF ?_ ?_; (focus (simp only [go_sem, seval, reduceCtorEq, e1, e2, List.length_map, List.length_range]; done))) | refine WK.seq ?_ | (refine WK.reg ?_; simp only [go_sem, seval, reduceCtorEq, e1, e2, List.length_map, List.length_range]) | (refine WK.skip ?_; simp only [go_sem, seval, reduceCtorEq, e1, e2, List.length_map, List.length_range]) | (refine WK.ret ?_; simp only [go_sem, seval, reduceCtorEq, e1, e2, List.length_map, List.length_range]) | (refine WK.exit ?_; simp only [go_sem, seval, reduceCtorEq, e1, e2, List.length_map, List.length_range]) | ((with_reducible refine And.intro ?_ ?_); omega) | omega)
    refine WK.draw0 mixed (by kernel_rfl) ?_
    simp only [go_sem, seval, reduceCtorEq, e1, e2, List.length_map, List.length_range]
    try simp only [go_sem, seval, reduceCtorEq, e1, e2, List.length_map, List.length_range]
    repeat (first | refine WK.blockSeq ?_ | refine WK.blockCond ?_ | refine WK.blockReg ?_ | (refine WK.condT ?_ ?_; (focus (simp only [go_sem, seval, reduceCtorEq, e1, e2, List.length_map, List.length_range]; done))) | (refine WK.condF ?_ ?_; (focus (simp only [go_sem, seval, reduceCtorEq, e1, e2, List.length_map, List.length_range]; done))) | refine WK.seq ?_ | (refine WK.reg ?_; simp only [go_sem, seval, reduceCtorEq, e1, e2, List.length_map, List.length_range]) | (refine WK.skip ?_; simp only [go_sem, seval, reduceCtorEq, e1, e2, List.length_map, List.length_range]) | (refine WK.ret ?_; simp only [go_sem, seval, reduceCtorEq, e1, e2, List.length_map, List.length_range]) | (refine WK.exit ?_; simp only [go_sem, seval, reduceCtorEq, e1, e2, List.length_map, List.length_range]) | ((with_reducible refine And.intro ?_ ?_); omega) | omega)
    refine WK.cond _ (by simp only [go_sem, seval, reduceCtorEq, e1, e2, List.length_map, List.length_range]; rfl) (fun h => ?_) (fun h => ?_)
    · try simp only [go_sem, seval, reduceCtorEq, e1, e2, List.length_map, List.length_range]
      repeat (first | refine WK.blockSeq ?_ | refine WK.blockCond ?_ | refine WK.blockReg ?_ | (refine WK.condT ?_ ?_; (focus (simp only [go_sem, seval, reduceCtorEq, e1, e2, List.length_map, List.length_range]; done))) | (refine WK.condF ?_ ?_; (focus (simp only [go_sem, seval, reduceCtorEq, e1, e2, List.length_map, List.length_range]; done))) | refine WK.seq ?_ | (refine WK.reg ?_; simp only [go_sem, seval, reduceCtorEq, e1, e2, List.length_map, List.length_range]) | (refine WK.skip ?_; simp only [go_sem, seval, reduceCtorEq, e1, e2, List.length_map, List.length_range]) | (refine WK.ret ?_; simp only [go_sem, seval, reduceCtorEq, e1, e2, List.length_map, List.length_range]) | (refine WK.exit ?_; simp only [go_sem, seval, reduceCtorEq, e1, e2, List.length_map, List.length_range]) | ((with_reducible refine And.intro ?_ ?_); omega) | omega)
      refine (beq_eq_false_iff_ne.2 fun he => ?_).symm
      simp [he] at h
    · try simp only [go_sem, seval, reduceCtorEq, e1, e2, List.length_map, List.length_range]
      repeat (first | refine WK.blockSeq ?_ | refine WK.blockCond ?_ | refine WK.blockReg ?_ | (refine WK.condT ?_ ?_; (focus (simp only [go_sem, seval, reduceCtorEq, e1, e2, List.length_map, List.length_range]; done))) | (refine WK.condF ?_ ?_; (focus (simp only [go_sem, seval, reduceCtorEq, e1, e2, List.length_map, List.length_range]; done))) | refine WK.seq ?_ | (refine WK.reg ?_; simp only [go_sem, seval, reduceCtorEq, e1, e2, List.length_map, List.length_range]) | (refine WK.skip ?_; simp only [go_sem, seval, reduceCtorEq, e1, e2, List.length_map, List.length_range]) | (refine WK.ret ?_; simp only [go_sem, seval, reduceCtorEq, e1, e2, List.length_map, List.length_range]) | (refine WK.exit ?_; simp only [go_sem, seval, reduceCtorEq, e1, e2, List.length_map, List.length_range]) | ((with_reducible refine And.intro ?_ ?_); omega) | omega)
      intro j hj
      rcases Nat.lt_succ_iff_lt_or_eq.1 hj with h' | rfl
      · exact hI j h'
      · simpa using h
  · intro hI
    simp only [go_sem, seval, reduceCtorEq]
    try simp only [go_sem, seval, reduceCtorEq]
    repeat (first | refine WK.blockSeq ?_ | refine WK.blockCond ?_ | refine WK.blockReg ?_ | (refine WK.condT ?_ ?_; (focus (simp only [go_sem, seval, reduceCtorEq]; done))) | (refine WK.condF ?_ ?_; (focus (simp only [go_sem, seval, reduceCtorEq]; done))) | refine WK.seq ?_ | (refine WK.reg ?_; simp only [go_sem, seval, reduceCtorEq]) | (refine WK.skip ?_; simp only [go_sem, seval, reduceCtorEq]) | (refine WK.ret ?_; simp only [go_sem, seval, reduceCtorEq]) | (refine WK.exit ?_; simp only [go_sem, seval, reduceCtorEq]) | ((with_reducible refine And.intro ?_ ?_); omega) | omega)
    exact (beq_iff_eq.2 (hz.eq hw hI)).symm
theorem full_ok (n : Nat) (hn : n ≤ 64) : PCall (C gl) 136 [.int .i64 n] (encZ n (allB n)) := by
  refine pcallX (callX_of b136 (by simp [Tryd.ntmps136]) ?_) (by simp only [AllCl, cl_int, and_true]) (by simp only [cl_encZ])
  refine W.of ?_
  rw [Tryd.ntmps136]
  simp only [toK, codeOf, Tryd.f136, go_sem, seval, reduceCtorEq]
  try simp only [go_sem, seval, reduceCtorEq]
  repeat (first | refine WK.blockSeq ?_ | refine WK.blockCond ?_ | refine WK.blockReg ?_ | (refine WK.condT ?_ ?_; (focus (simp only [go_sem, seval, reduceCtorEq]; done))) | (refine WK.condF ?_ ?_; (focus (simp only [go_sem, seval, reduceCtorEq]; done))) | refine WK.seq ?_ | (refine WK.reg ?_; simp only [go_sem, seval, reduceCtorEq]) | (refine WK.skip ?_; simp only [go_sem, seval, reduceCtorEq]) | (refine WK.ret ?_; simp only [go_sem, seval, reduceCtorEq]) | (refine WK.exit ?_; simp only [go_sem, seval, reduceCtorEq]) | ((with_reducible refine And.intro ?_ ?_); omega) | omega)
  refine WK.rangeX (n) [3] [] (fun i => []) (fun i => Sto.none.add (.row 1 ((List.range i).map (fun l => .bool ((allB n).getLsbD l)) ++ List.replicate (n - i) (.bool false)) false)) (by omega) (by decide) (by simp only [go_sem, seval, reduceCtorEq, map_range0, Nat.sub_zero, List.length_append, List.length_map, List.length_range, List.length_replicate]) (by simp only [go_sem, seval, reduceCtorEq, map_range0, Nat.sub_zero, List.length_append, List.length_map, List.length_range, List.length_replicate]) (by simp only [go_sem, seval, reduceCtorEq, map_range0, Nat.sub_zero, List.length_append, List.length_map, List.length_range, List.length_replicate, List.take_zero]) (by first | rfl | (simp only [go_sem, seval, reduceCtorEq, map_range0, Nat.sub_zero, List.length_append, List.length_map, List.length_range, List.length_replicate]; done) | (refine Sto.ext' (by simp only [go_sem, seval, reduceCtorEq, map_range0, Nat.sub_zero, List.length_append, List.length_map, List.length_range, List.length_replicate]) (fun i => ?_); simp only [go_sem, seval, reduceCtorEq, map_range0, Nat.sub_zero, List.length_append, List.length_map, List.length_range, List.length_replicate]; repeat' split; all_goals (first | rfl | omega | simp_all))) ?_ ?_
  · intro i hi
    simp only [go_sem, seval, reduceCtorEq]
    try simp only [go_sem, seval, reduceCtorEq]
    repeat (first | refine WK.blockSeq ?_ | refine WK.blockCond ?_ | refine WK.blockReg ?_ | (refine WK.condT ?_ ?_; (focus (simp only [go_sem, seval, reduceCtorEq]; done))) | (refine WK.condF ?_ ?_; (focus (simp only [go_sem, seval, reduceCtorEq]; done))) | refine WK.seq ?_ | (refine WK.reg ?_; simp only [go_sem, seval, reduceCtorEq]) | (refine WK.skip ?_; simp only [go_sem, seval, reduceCtorEq]) | (refine WK.ret ?_; simp only [go_sem, seval, reduceCtorEq]) | (refine WK.exit ?_; simp only [go_sem, seval, reduceCtorEq]) | ((with_reducible refine And.intro ?_ ?_); omega) | omega)
    have e : ((List.range i).map (fun l => AV.bool ((allB n).getLsbD l)) ++ List.replicate (n - i) (AV.bool false)).length = n := by simp; omega
    have e2 := set_fill (fun l => AV.bool ((allB n).getLsbD l)) (AV.bool false) n i hi
    rw [List.range_succ] at e2
    have e3 : (allB n).getLsbD i = true := by rw [allB_get n i hn (by omega)]; simp [hi]
    refine ⟨by rw [e]; exact hi, ?_⟩
    rw [e3] at e2
    rw [e2]
    refine Cut.by' (by first | exact Nat.le_refl _ | (simp only [Sto.get_add, Sto.get_set, Sto.get_del, Sto.get_none, Sto.next_add, Sto.next_set, Sto.next_del, Sto.next_none]; omega)) (by first | exact Nat.le_refl _ | (simp only [Sto.get_add, Sto.get_set, Sto.get_del, Sto.get_none, Sto.next_add, Sto.next_set, Sto.next_del, Sto.next_none]; omega)) (fun i hi => ?_) (fun i o hi ho => ?_)
    · (try simp only [Sto.get_add, Sto.get_set, Sto.get_del, Sto.get_none, Sto.next_add, Sto.next_set, Sto.next_del, Sto.next_none] at hi ⊢); ((repeat' split) <;> first | exact .inl rfl | exact .inr rfl | omega | (simp_all; done))
    · (try simp only [Sto.get_add, Sto.get_set, Sto.get_del, Sto.get_none, Sto.next_add, Sto.next_set, Sto.next_del, Sto.next_none] at hi ho ⊢); ((repeat' split at ho) <;> (repeat' split) <;> first | (exact ⟨ho, .inl ho⟩) | (cases ho; done) | omega | (cases ho; refine ⟨rfl, .inl rfl⟩) | (cases ho; refine ⟨rfl, .inr ?_⟩; simp only [go_sem, seval, reduceCtorEq]; first | done | omega | (refine ⟨?_, ?_⟩ <;> omega)) | (simp_all; done))
  · simp only [go_sem, seval, reduceCtorEq]
    have e : ((List.range n).map (fun l => AV.bool ((allB n).getLsbD l)) ++ List.replicate (n - n) (AV.bool false)) = (List.range n).map (fun l => AV.bool ((allB n).getLsbD l)) := by simp
    rw [e]
    refine WK.freeze 0 (by simp only [go_sem, seval, reduceCtorEq]; rfl) ?_
    try simp only [go_sem, seval, reduceCtorEq]
    repeat (first | refine WK.blockSeq ?_ | refine WK.blockCond ?_ | refine WK.blockReg ?_ | (refine WK.condT ?_ ?_; (focus (simp only [go_sem, seval, reduceCtorEq]; done))) | (refine WK.condF ?_ ?_; (focus (simp only [go_sem, seval, reduceCtorEq]; done))) | refine WK.seq ?_ | (refine WK.reg ?_; simp only [go_sem, seval, reduceCtorEq]) | (refine WK.skip ?_; simp only [go_sem, seval, reduceCtorEq]) | (refine WK.ret ?_; simp only [go_sem, seval, reduceCtorEq]) | (refine WK.exit ?_; simp only [go_sem, seval, reduceCtorEq]) | ((with_reducible refine And.intro ?_ ?_); omega) | omega)
    refine ⟨⟨?_, ?_⟩, ?_⟩
    · rw [if_pos (by simp), List.take_of_length_le (by simp)]; exact .refl _
    · simp only [encZ, go_sem, seval, reduceCtorEq]
    refine Cut.by' (by first | exact Nat.le_refl _ | (simp only [Sto.get_add, Sto.get_set, Sto.get_del, Sto.get_none, Sto.next_add, Sto.next_set, Sto.next_del, Sto.next_none]; omega)) (by first | exact Nat.le_refl _ | (simp only [Sto.get_add, Sto.get_set, Sto.get_del, Sto.get_none, Sto.next_add, Sto.next_set, Sto.next_del, Sto.next_none]; omega)) (fun i hi => ?_) (fun i o hi ho => ?_)
    · (try simp only [Sto.get_add, Sto.get_set, Sto.get_del, Sto.get_none, Sto.next_add, Sto.next_set, Sto.next_del, Sto.next_none] at hi ⊢); ((repeat' split) <;> first | exact .inl rfl | exact .inr rfl | omega | (simp_all; done))
    · (try simp only [Sto.get_add, Sto.get_set, Sto.get_del, Sto.get_none, Sto.next_add, Sto.next_set, Sto.next_del, Sto.next_none] at hi ho ⊢); ((repeat' split at ho) <;> (repeat' split) <;> first | (exact ⟨ho, .inl ho⟩) | (cases ho; done) | omega | (cases ho; refine ⟨rfl, .inl rfl⟩) | (cases ho; refine ⟨rfl, .inr ?_⟩; simp only [go_sem, seval, reduceCtorEq]; first | done | omega | (refine ⟨?_, ?_⟩ <;> omega)) | (simp_all; done))
theorem some_ok (l : List Fm) : PCall (C gl) 137 [.list false (encFs l)] (.list false (encFs (orTrue l))) := by
  refine pcallX (callX_of b137 (by simp [Tryd.ntmps137]) ?_) (by simp only [AllCl, cl_list, clE_encFs, and_true]) (by simp only [cl_list, clE_encFs])
  refine W.of ?_
  rw [Tryd.ntmps137]
  simp only [toK, codeOf, Tryd.f137, go_sem, seval, reduceCtorEq]
  try simp only [go_sem, seval, reduceCtorEq, encFs_len]
  repeat (first | refine WK.blockSeq ?_ | refine WK.blockCond ?_ | refine WK.blockReg ?_ | (refine WK.condT ?_ ?_; (focus (simp only [go_sem, seval, reduceCtorEq, encFs_len]; done))) | (refine WK.condF ?_ ?_; (focus (simp only [go_sem, seval, reduceCtorEq, encFs_len]; done))) | refine WK.seq ?_ | (refine WK.reg ?_; simp only [go_sem, seval, reduceCtorEq, encFs_len]) | (refine WK.skip ?_; simp only [go_sem, seval, reduceCtorEq, encFs_len]) | (refine WK.ret ?_; simp only [go_sem, seval, reduceCtorEq, encFs_len]) | (refine WK.exit ?_; simp only [go_sem, seval, reduceCtorEq, encFs_len]) | ((with_reducible refine And.intro ?_ ?_); omega) | omega)
  refine WK.cond _ (by simp only [go_sem, seval, reduceCtorEq]; rfl) (fun h => ?_) (fun h => ?_)
  · try simp only [go_sem, seval, reduceCtorEq]
    repeat (first | refine WK.blockSeq ?_ | refine WK.blockCond ?_ | refine WK.blockReg ?_ | (refine WK.condT ?_ ?_; (focus (simp only [go_sem, seval, reduceCtorEq]; done))) | (refine WK.condF ?_ ?_; (focus (simp only [go_sem, seval, reduceCtorEq]; done))) | refine WK.seq ?_ | (refine WK.reg ?_; simp only [go_sem, seval, reduceCtorEq]) | (refine WK.skip ?_; simp only [go_sem, seval, reduceCtorEq]) | (refine WK.ret ?_; simp only [go_sem, seval, reduceCtorEq]) | (refine WK.exit ?_; simp only [go_sem, seval, reduceCtorEq]) | ((with_reducible refine And.intro ?_ ?_); omega) | omega)
    have h1 : orTrue l = [.mk 0 0 []] := by simp [orTrue]; intro h'; exact absurd h (by simp [h'])
    rw [h1]
    refine AV.le_list (fun e => by cases e) ⟨⟨.refl _, .refl _, AV.le_list' _, trivial⟩, trivial⟩
  · try simp only [go_sem, seval, reduceCtorEq]
    repeat (first | refine WK.blockSeq ?_ | refine WK.blockCond ?_ | refine WK.blockReg ?_ | (refine WK.condT ?_ ?_; (focus (simp only [go_sem, seval, reduceCtorEq]; done))) | (refine WK.condF ?_ ?_; (focus (simp only [go_sem, seval, reduceCtorEq]; done))) | refine WK.seq ?_ | (refine WK.reg ?_; simp only [go_sem, seval, reduceCtorEq]) | (refine WK.skip ?_; simp only [go_sem, seval, reduceCtorEq]) | (refine WK.ret ?_; simp only [go_sem, seval, reduceCtorEq]) | (refine WK.exit ?_; simp only [go_sem, seval, reduceCtorEq]) | ((with_reducible refine And.intro ?_ ?_); omega) | omega)
    have h1 : orTrue l = l := by simp [orTrue]; intro h'; exact absurd h (by simp [h'])
    rw [h1]; exact .refl _

def anyN (p : Nat → Bool) : Nat → Bool
  | 0 => false
  | n + 1 => anyN p n || p n
theorem anyN_0 (p : Nat → Bool) : anyN p 0 = false := rfl
theorem anyN_succ (p : Nat → Bool) (n : Nat) : anyN p (n + 1) = (anyN p n || p n) := rfl
theorem idx_lt {a b i o : Nat} (hi : i < 2 ^ a) (ho : o < 2 ^ b) : i + o * 2 ^ a < 2 ^ (a + b) := by
  have : (o + 1) * 2 ^ a ≤ 2 ^ b * 2 ^ a := Nat.mul_le_mul_right _ ho
  rw [Nat.add_mul, Nat.one_mul, ← Nat.pow_add, Nat.add_comm b a] at this
  omega

def beforeB (c : Ct) (a b x : Nat) (z : BitVec 64) : Bool := (List.range (2 ^ a)).all fun d => !holdsF x d c.se || anyN (fun l => holdsF x ((d + l * 2 ^ a : Nat) : Int) c.ss && z.getLsbD (d + l * 2 ^ a)) (2 ^ b)
theorem before_ok (c : Ct) (a b x n : Nat) (z : BitVec 64) (hc : CtOK c a b) (he : WfT c.se) (hs : WfT c.ss) (hn : n = 2 ^ (a + b)) (hx : x < n) : PCall (C gl) 206 [encC c, .int .i64 x, encZ n z] (.bool (beforeB c a b x z)) := by
  refine pcallX (callX_of b206 (by simp [Tryd.ntmps206]) ?_) (by simp only [AllCl, cl_encC, cl_int, cl_encZ, and_true]) (.bool _)
  have p1 := pow2_le 3 hc.a3
  have p2 := pow2_le 3 hc.b3
  have p3 := pow2_le (a := a + b) 6 (by have := hc.a3; have := hc.b3; omega)
  have hin := hc.inn
  have hout := hc.out
  have q1 := shl_one a (by have := hc.a3; omega)
  have q2 := shl_one b (by have := hc.b3; omega)
  refine W.of ?_
  rw [Tryd.ntmps206]
  simp only [toK, codeOf, Tryd.f206, go_sem, seval, reduceCtorEq]
  try simp only [go_sem, seval, reduceCtorEq, hin, hout, q1, q2]
  repeat (first | refine WK.blockSeq ?_ | refine WK.blockCond ?_ | refine WK.blockReg ?_ | (refine WK.condT ?_ ?_; (focus (simp only [go_sem, seval, reduceCtorEq, hin, hout, q1, q2]; done))) | (refine WK.condF ?_ ?_; (focus (simp only [go_sem, seval, reduceCtorEq, hin, hout, q1, q2]; done))) | refine WK.seq ?_ | (refine WK.reg ?_; simp only [go_sem, seval, reduceCtorEq, hin, hout, q1, q2]) | (refine WK.skip ?_; simp only [go_sem, seval, reduceCtorEq, hin, hout, q1, q2]) | (refine WK.ret ?_; simp only [go_sem, seval, reduceCtorEq, hin, hout, q1, q2]) | (refine WK.exit ?_; simp only [go_sem, seval, reduceCtorEq, hin, hout, q1, q2]) | ((with_reducible refine And.intro ?_ ?_); omega) | omega)
  refine WK.rangeI ((2 ^ a)) [1, 2, 3] [] (fun i => []) (fun i => Sto.none.add (.box (ctCells c))) (fun i => ∀ d < i, (!holdsF x d c.se || anyN (fun l => holdsF x ((d + l * 2 ^ a : Nat) : Int) c.ss && z.getLsbD (d + l * 2 ^ a)) (2 ^ b)) = true) (by simp) (by omega) (by decide) (by simp only [go_sem, seval, reduceCtorEq, hin, hout, q1, q2]) (by simp only [go_sem, seval, reduceCtorEq, hin, hout, q1, q2]) (by simp only [go_sem, seval, reduceCtorEq, hin, hout, q1, q2, List.take_zero]) (by first | rfl | (simp only [go_sem, seval, reduceCtorEq, hin, hout, q1, q2]; done) | (refine Sto.ext' (by simp only [go_sem, seval, reduceCtorEq, hin, hout, q1, q2]) (fun i => ?_); simp only [go_sem, seval, reduceCtorEq, hin, hout, q1, q2]; repeat' split; all_goals (first | rfl | omega | simp_all))) ?_ ?_
  · intro d hd hI
    simp only [go_sem, seval, reduceCtorEq, hin, hout, q1, q2]
    try simp only [go_sem, seval, reduceCtorEq, hin, hout, q1, q2]
    repeat (first | refine WK.blockSeq ?_ | refine WK.blockCond ?_ | refine WK.blockReg ?_ | (refine WK.condT ?_ ?_; (focus (simp only [go_sem, seval, reduceCtorEq, hin, hout, q1, q2]; done))) | (refine WK.condF ?_ ?_; (focus (simp only [go_sem, seval, reduceCtorEq, hin, hout, q1, q2]; done))) | refine WK.seq ?_ | (refine WK.reg ?_; simp only [go_sem, seval, reduceCtorEq, hin, hout, q1, q2]) | (refine WK.skip ?_; simp only [go_sem, seval, reduceCtorEq, hin, hout, q1, q2]) | (refine WK.ret ?_; simp only [go_sem, seval, reduceCtorEq, hin, hout, q1, q2]) | (refine WK.exit ?_; simp only [go_sem, seval, reduceCtorEq, hin, hout, q1, q2]) | ((with_reducible refine And.intro ?_ ?_); omega) | omega)
    refine callK_pureL (true_ok (gl := gl) c.se he x d) rfl (by simp only [go_sem, seval, reduceCtorEq, hin, hout, q1, q2, encF_eq]) (by simp only [go_sem, seval, reduceCtorEq, hin, hout, q1, q2, encF_eq]) ?_
    simp only [go_sem, seval, reduceCtorEq, hin, hout, q1, q2, encF_eq]
    refine WK.cond _ (by simp only [go_sem, seval, reduceCtorEq, hin, hout, q1, q2]; rfl) (fun h => ?_) (fun h => ?_)
    · try simp only [go_sem, seval, reduceCtorEq, hin, hout, q1, q2]
      repeat (first | refine WK.blockSeq ?_ | refine WK.blockCond ?_ | refine WK.blockReg ?_ | (refine WK.condT ?_ ?_; (focus (simp only [go_sem, seval, reduceCtorEq, hin, hout, q1, q2]; done))) | (refine WK.condF ?_ ?_; (focus (simp only [go_sem, seval, reduceCtorEq, hin, hout, q1, q2]; done))) | refine WK.seq ?_ | (refine WK.reg ?_; simp only [go_sem, seval, reduceCtorEq, hin, hout, q1, q2]) | (refine WK.skip ?_; simp only [go_sem, seval, reduceCtorEq, hin, hout, q1, q2]) | (refine WK.ret ?_; simp only [go_sem, seval, reduceCtorEq, hin, hout, q1, q2]) | (refine WK.exit ?_; simp only [go_sem, seval, reduceCtorEq, hin, hout, q1, q2]) | ((with_reducible refine And.intro ?_ ?_); omega) | omega)
      intro j hj
      rcases Nat.lt_succ_iff_lt_or_eq.1 hj with h' | rfl
      · exact hI j h'
      · simp only [h, Bool.true_or]
    · try simp only [go_sem, seval, reduceCtorEq, hin, hout, q1, q2]
      repeat (first | refine WK.blockSeq ?_ | refine WK.blockCond ?_ | refine WK.blockReg ?_ | (refine WK.condT ?_ ?_; (focus (simp only [go_sem, seval, reduceCtorEq, hin, hout, q1, q2]; done))) | (refine WK.condF ?_ ?_; (focus (simp only [go_sem, seval, reduceCtorEq, hin, hout, q1, q2]; done))) | refine WK.seq ?_ | (refine WK.reg ?_; simp only [go_sem, seval, reduceCtorEq, hin, hout, q1, q2]) | (refine WK.skip ?_; simp only [go_sem, seval, reduceCtorEq, hin, hout, q1, q2]) | (refine WK.ret ?_; simp only [go_sem, seval, reduceCtorEq, hin, hout, q1, q2]) | (refine WK.exit ?_; simp only [go_sem, seval, reduceCtorEq, hin, hout, q1, q2]) | ((with_reducible refine And.intro ?_ ?_); omega) | omega)
      refine WK.rangeX ((2 ^ b)) [1, 2, 3, 7, 13, 14] [8] (fun o => [.bool (anyN (fun l => holdsF x ((d + l * 2 ^ a : Nat) : Int) c.ss && z.getLsbD (d + l * 2 ^ a)) o)]) (fun o => Sto.none.add (.box (ctCells c))) (by omega) (by decide) (by simp only [go_sem, seval, reduceCtorEq, hin, hout, q1, q2, anyN_0]) (by simp only [go_sem, seval, reduceCtorEq, hin, hout, q1, q2, anyN_0]) (by simp only [go_sem, seval, reduceCtorEq, hin, hout, q1, q2, anyN_0, List.take_zero]) (by first | rfl | (simp only [go_sem, seval, reduceCtorEq, hin, hout, q1, q2, anyN_0]; done) | (refine Sto.ext' (by simp only [go_sem, seval, reduceCtorEq, hin, hout, q1, q2, anyN_0]) (fun i => ?_); simp only [go_sem, seval, reduceCtorEq, hin, hout, q1, q2, anyN_0]; repeat' split; all_goals (first | rfl | omega | simp_all))) ?_ ?_
      · intro o ho
        simp only [go_sem, seval, reduceCtorEq, hin, hout, q1, q2]
        have hm : o * 2 ^ a ≤ 8 * 8 := Nat.mul_le_mul (by omega) (by omega)
        have r1 := shl_mul o a (by omega) (by have := hc.a3; omega)
        have r2 := wrap_add_nat d (o * 2 ^ a) (by omega)
        have r3 := idx_lt hd ho
        rw [← hn] at r3
        have r4 := range_getD (fun l => AV.bool (z.getLsbD l)) r3
        cases hb : anyN (fun l => holdsF x ((d + l * 2 ^ a : Nat) : Int) c.ss && z.getLsbD (d + l * 2 ^ a)) o with
        | true =>
          try simp only [go_sem, seval, reduceCtorEq, hin, hout, q1, q2, r1, r2, r4, encZ_eq, List.length_map, List.length_range, hb, anyN_succ, Bool.true_or]
          repeat (first | refine WK.blockSeq ?_ | refine WK.blockCond ?_ | refine WK.blockReg ?_ | (refine WK.condT ?_ ?_; (focus (simp only [go_sem, seval, reduceCtorEq, hin, hout, q1, q2, r1, r2, r4, encZ_eq, List.length_map, List.length_range, hb, anyN_succ, Bool.true_or]; done))) | (refine WK.condF ?_ ?_; (focus (simp only [go_sem, seval, reduceCtorEq, hin, hout, q1, q2, r1, r2, r4, encZ_eq, List.length_map, List.length_range, hb, anyN_succ, Bool.true_or]; done))) | refine WK.seq ?_ | (refine WK.reg ?_; simp only [go_sem, seval, reduceCtorEq, hin, hout, q1, q2, r1, r2, r4, encZ_eq, List.length_map, List.length_range, hb, anyN_succ, Bool.true_or]) | (refine WK.skip ?_; simp only [go_sem, seval, reduceCtorEq, hin, hout, q1, q2, r1, r2, r4, encZ_eq, List.length_map, List.length_range, hb, anyN_succ, Bool.true_or]) | (refine WK.ret ?_; simp only [go_sem, seval, reduceCtorEq, hin, hout, q1, q2, r1, r2, r4, encZ_eq, List.length_map, List.length_range, hb, anyN_succ, Bool.true_or]) | (refine WK.exit ?_; simp only [go_sem, seval, reduceCtorEq, hin, hout, q1, q2, r1, r2, r4, encZ_eq, List.length_map, List.length_range, hb, anyN_succ, Bool.true_or]) | ((with_reducible refine And.intro ?_ ?_); omega) | omega)
        | false =>
          try simp only [go_sem, seval, reduceCtorEq, hin, hout, q1, q2, r1, r2, r4, encZ_eq, List.length_map, List.length_range, hb, anyN_succ, Bool.false_or]
          repeat (first | refine WK.blockSeq ?_ | refine WK.blockCond ?_ | refine WK.blockReg ?_ | (refine WK.condT ?_ ?_; (focus (simp only [go_sem, seval, reduceCtorEq, hin, hout, q1, q2, r1, r2, r4, encZ_eq, List.length_map, List.length_range, hb, anyN_succ, Bool.false_or]; done))) | (refine WK.condF ?_ ?_; (focus (simp only [go_sem, seval, reduceCtorEq, hin, hout, q1, q2, r1, r2, r4, encZ_eq, List.length_map, List.length_range, hb, anyN_succ, Bool.false_or]; done))) | refine WK.seq ?_ | (refine WK.reg ?_; simp only [go_sem, seval, reduceCtorEq, hin, hout, q1, q2, r1, r2, r4, encZ_eq, List.length_map, List.length_range, hb, anyN_succ, Bool.false_or]) | (refine WK.skip ?_; simp only [go_sem, seval, reduceCtorEq, hin, hout, q1, q2, r1, r2, r4, encZ_eq, List.length_map, List.length_range, hb, anyN_succ, Bool.false_or]) | (refine WK.ret ?_; simp only [go_sem, seval, reduceCtorEq, hin, hout, q1, q2, r1, r2, r4, encZ_eq, List.length_map, List.length_range, hb, anyN_succ, Bool.false_or]) | (refine WK.exit ?_; simp only [go_sem, seval, reduceCtorEq, hin, hout, q1, q2, r1, r2, r4, encZ_eq, List.length_map, List.length_range, hb, anyN_succ, Bool.false_or]) | ((with_reducible refine And.intro ?_ ?_); omega) | omega)
          cases h2 : holdsF x ((d + o * 2 ^ a : Nat) : Int) c.ss with
          | true =>
            refine callK_pureL (true_ok (gl := gl) c.ss hs x (d + o * 2 ^ a : Nat)) rfl (by simp only [go_sem, seval, reduceCtorEq, hin, hout, q1, q2, r1, r2, r4, encZ_eq, List.length_map, List.length_range, encF_eq, h2]) (by simp only [go_sem, seval, reduceCtorEq, hin, hout, q1, q2, r1, r2, r4, encZ_eq, List.length_map, List.length_range, encF_eq, h2]) ?_
            simp only [go_sem, seval, reduceCtorEq, hin, hout, q1, q2, r1, r2, r4, encZ_eq, List.length_map, List.length_range, encF_eq, h2]
            try simp only [go_sem, seval, reduceCtorEq, hin, hout, q1, q2, r1, r2, r4, encZ_eq, List.length_map, List.length_range, h2, Bool.true_and]
            repeat (first | refine WK.blockSeq ?_ | refine WK.blockCond ?_ | refine WK.blockReg ?_ | (refine WK.condT ?_ ?_; (focus (simp only [go_sem, seval, reduceCtorEq, hin, hout, q1, q2, r1, r2, r4, encZ_eq, List.length_map, List.length_range, h2, Bool.true_and]; done))) | (refine WK.condF ?_ ?_; (focus (simp only [go_sem, seval, reduceCtorEq, hin, hout, q1, q2, r1, r2, r4, encZ_eq, List.length_map, List.length_range, h2, Bool.true_and]; done))) | refine WK.seq ?_ | (refine WK.reg ?_; simp only [go_sem, seval, reduceCtorEq, hin, hout, q1, q2, r1, r2, r4, encZ_eq, List.length_map, List.length_range, h2, Bool.true_and]) | (refine WK.skip ?_; simp only [go_sem, seval, reduceCtorEq, hin, hout, q1, q2, r1, r2, r4, encZ_eq, List.length_map, List.length_range, h2, Bool.true_and]) | (refine WK.ret ?_; simp only [go_sem, seval, reduceCtorEq, hin, hout, q1, q2, r1, r2, r4, encZ_eq, List.length_map, List.length_range, h2, Bool.true_and]) | (refine WK.exit ?_; simp only [go_sem, seval, reduceCtorEq, hin, hout, q1, q2, r1, r2, r4, encZ_eq, List.length_map, List.length_range, h2, Bool.true_and]) | ((with_reducible refine And.intro ?_ ?_); omega) | omega)
          | false =>
            refine callK_pureL (true_ok (gl := gl) c.ss hs x (d + o * 2 ^ a : Nat)) rfl (by simp only [go_sem, seval, reduceCtorEq, hin, hout, q1, q2, r1, r2, r4, encZ_eq, List.length_map, List.length_range, encF_eq, h2]) (by simp only [go_sem, seval, reduceCtorEq, hin, hout, q1, q2, r1, r2, r4, encZ_eq, List.length_map, List.length_range, encF_eq, h2]) ?_
            simp only [go_sem, seval, reduceCtorEq, hin, hout, q1, q2, r1, r2, r4, encZ_eq, List.length_map, List.length_range, encF_eq, h2]
            try simp only [go_sem, seval, reduceCtorEq, hin, hout, q1, q2, r1, r2, r4, encZ_eq, List.length_map, List.length_range, h2, Bool.false_and]
            repeat (first | refine WK.blockSeq ?_ | refine WK.blockCond ?_ | refine WK.blockReg ?_ | (refine WK.condT ?_ ?_; (focus (simp only [go_sem, seval, reduceCtorEq, hin, hout, q1, q2, r1, r2, r4, encZ_eq, List.length_map, List.length_range, h2, Bool.false_and]; done))) | (refine WK.condF ?_ ?_; (focus (simp only [go_sem, seval, reduceCtorEq, hin, hout, q1, q2, r1, r2, r4, encZ_eq, List.length_map, List.length_range, h2, Bool.false_and]; done))) | refine WK.seq ?_ | (refine WK.reg ?_; simp only [go_sem, seval, reduceCtorEq, hin, hout, q1, q2, r1, r2, r4, encZ_eq, List.length_map, List.length_range, h2, Bool.false_and]) | (refine WK.skip ?_; simp only [go_sem, seval, reduceCtorEq, hin, hout, q1, q2, r1, r2, r4, encZ_eq, List.length_map, List.length_range, h2, Bool.false_and]) | (refine WK.ret ?_; simp only [go_sem, seval, reduceCtorEq, hin, hout, q1, q2, r1, r2, r4, encZ_eq, List.length_map, List.length_range, h2, Bool.false_and]) | (refine WK.exit ?_; simp only [go_sem, seval, reduceCtorEq, hin, hout, q1, q2, r1, r2, r4, encZ_eq, List.length_map, List.length_range, h2, Bool.false_and]) | ((with_reducible refine And.intro ?_ ?_); omega) | omega)
      · simp only [go_sem, seval, reduceCtorEq, hin, hout, q1, q2]
        try simp only [go_sem, seval, reduceCtorEq, hin, hout, q1, q2]
        repeat (first | refine WK.blockSeq ?_ | refine WK.blockCond ?_ | refine WK.blockReg ?_ | (refine WK.condT ?_ ?_; (focus (simp only [go_sem, seval, reduceCtorEq, hin, hout, q1, q2]; done))) | (refine WK.condF ?_ ?_; (focus (simp only [go_sem, seval, reduceCtorEq, hin, hout, q1, q2]; done))) | refine WK.seq ?_ | (refine WK.reg ?_; simp only [go_sem, seval, reduceCtorEq, hin, hout, q1, q2]) | (refine WK.skip ?_; simp only [go_sem, seval, reduceCtorEq, hin, hout, q1, q2]) | (refine WK.ret ?_; simp only [go_sem, seval, reduceCtorEq, hin, hout, q1, q2]) | (refine WK.exit ?_; simp only [go_sem, seval, reduceCtorEq, hin, hout, q1, q2]) | ((with_reducible refine And.intro ?_ ?_); omega) | omega)
        refine WK.cond _ (by simp only [go_sem, seval, reduceCtorEq, hin, hout, q1, q2]; rfl) (fun h2 => ?_) (fun h2 => ?_)
        · try simp only [go_sem, seval, reduceCtorEq, hin, hout, q1, q2]
          repeat (first | refine WK.blockSeq ?_ | refine WK.blockCond ?_ | refine WK.blockReg ?_ | (refine WK.condT ?_ ?_; (focus (simp only [go_sem, seval, reduceCtorEq, hin, hout, q1, q2]; done))) | (refine WK.condF ?_ ?_; (focus (simp only [go_sem, seval, reduceCtorEq, hin, hout, q1, q2]; done))) | refine WK.seq ?_ | (refine WK.reg ?_; simp only [go_sem, seval, reduceCtorEq, hin, hout, q1, q2]) | (refine WK.skip ?_; simp only [go_sem, seval, reduceCtorEq, hin, hout, q1, q2]) | (refine WK.ret ?_; simp only [go_sem, seval, reduceCtorEq, hin, hout, q1, q2]) | (refine WK.exit ?_; simp only [go_sem, seval, reduceCtorEq, hin, hout, q1, q2]) | ((with_reducible refine And.intro ?_ ?_); omega) | omega)
          refine ⟨(Bool.eq_false_iff.2 fun hk => ?_).symm, ?_⟩
          · have := List.all_eq_true.1 hk d (List.mem_range.2 hd)
            simp only [Bool.not_eq_eq_eq_not, Bool.not_true, Bool.not_false] at h h2
            simp only [h, h2, Bool.not_true, Bool.or_self] at this
            cases this
          refine Cut.by' (by first | exact Nat.le_refl _ | (simp only [Sto.get_add, Sto.get_set, Sto.get_del, Sto.get_none, Sto.next_add, Sto.next_set, Sto.next_del, Sto.next_none]; omega)) (by first | exact Nat.le_refl _ | (simp only [Sto.get_add, Sto.get_set, Sto.get_del, Sto.get_none, Sto.next_add, Sto.next_set, Sto.next_del, Sto.next_none]; omega)) (fun i hi => ?_) (fun i o hi ho => ?_)
          · (try simp only [Sto.get_add, Sto.get_set, Sto.get_del, Sto.get_none, Sto.next_add, Sto.next_set, Sto.next_del, Sto.next_none] at hi ⊢); ((repeat' split) <;> first | exact .inl rfl | exact .inr rfl | omega | (simp_all; done))
          · (try simp only [Sto.get_add, Sto.get_set, Sto.get_del, Sto.get_none, Sto.next_add, Sto.next_set, Sto.next_del, Sto.next_none] at hi ho ⊢); ((repeat' split at ho) <;> (repeat' split) <;> first | (exact ⟨ho, .inl ho⟩) | (cases ho; done) | omega | (cases ho; refine ⟨rfl, .inl rfl⟩) | (cases ho; refine ⟨rfl, .inr ?_⟩; simp only [go_sem, seval, reduceCtorEq, hin, hout, q1, q2]; first | done | omega | (refine ⟨?_, ?_⟩ <;> omega)) | (simp_all; done))
        · try simp only [go_sem, seval, reduceCtorEq, hin, hout, q1, q2]
          repeat (first | refine WK.blockSeq ?_ | refine WK.blockCond ?_ | refine WK.blockReg ?_ | (refine WK.condT ?_ ?_; (focus (simp only [go_sem, seval, reduceCtorEq, hin, hout, q1, q2]; done))) | (refine WK.condF ?_ ?_; (focus (simp only [go_sem, seval, reduceCtorEq, hin, hout, q1, q2]; done))) | refine WK.seq ?_ | (refine WK.reg ?_; simp only [go_sem, seval, reduceCtorEq, hin, hout, q1, q2]) | (refine WK.skip ?_; simp only [go_sem, seval, reduceCtorEq, hin, hout, q1, q2]) | (refine WK.ret ?_; simp only [go_sem, seval, reduceCtorEq, hin, hout, q1, q2]) | (refine WK.exit ?_; simp only [go_sem, seval, reduceCtorEq, hin, hout, q1, q2]) | ((with_reducible refine And.intro ?_ ?_); omega) | omega)
          intro j hj
          rcases Nat.lt_succ_iff_lt_or_eq.1 hj with h' | rfl
          · exact hI j h'
          · simpa using Or.inr h2
  · intro hI
    simp only [go_sem, seval, reduceCtorEq, hin, hout, q1, q2]
    try simp only [go_sem, seval, reduceCtorEq, hin, hout, q1, q2]
    repeat (first | refine WK.blockSeq ?_ | refine WK.blockCond ?_ | refine WK.blockReg ?_ | (refine WK.condT ?_ ?_; (focus (simp only [go_sem, seval, reduceCtorEq, hin, hout, q1, q2]; done))) | (refine WK.condF ?_ ?_; (focus (simp only [go_sem, seval, reduceCtorEq, hin, hout, q1, q2]; done))) | refine WK.seq ?_ | (refine WK.reg ?_; simp only [go_sem, seval, reduceCtorEq, hin, hout, q1, q2]) | (refine WK.skip ?_; simp only [go_sem, seval, reduceCtorEq, hin, hout, q1, q2]) | (refine WK.ret ?_; simp only [go_sem, seval, reduceCtorEq, hin, hout, q1, q2]) | (refine WK.exit ?_; simp only [go_sem, seval, reduceCtorEq, hin, hout, q1, q2]) | ((with_reducible refine And.intro ?_ ?_); omega) | omega)
    refine ⟨(List.all_eq_true.2 fun j hj => hI j (List.mem_range.1 hj)).symm, ?_⟩
    refine Cut.by' (by first | exact Nat.le_refl _ | (simp only [Sto.get_add, Sto.get_set, Sto.get_del, Sto.get_none, Sto.next_add, Sto.next_set, Sto.next_del, Sto.next_none]; omega)) (by first | exact Nat.le_refl _ | (simp only [Sto.get_add, Sto.get_set, Sto.get_del, Sto.get_none, Sto.next_add, Sto.next_set, Sto.next_del, Sto.next_none]; omega)) (fun i hi => ?_) (fun i o hi ho => ?_)
    · (try simp only [Sto.get_add, Sto.get_set, Sto.get_del, Sto.get_none, Sto.next_add, Sto.next_set, Sto.next_del, Sto.next_none] at hi ⊢); ((repeat' split) <;> first | exact .inl rfl | exact .inr rfl | omega | (simp_all; done))
    · (try simp only [Sto.get_add, Sto.get_set, Sto.get_del, Sto.get_none, Sto.next_add, Sto.next_set, Sto.next_del, Sto.next_none] at hi ho ⊢); ((repeat' split at ho) <;> (repeat' split) <;> first | (exact ⟨ho, .inl ho⟩) | (cases ho; done) | omega | (cases ho; refine ⟨rfl, .inl rfl⟩) | (cases ho; refine ⟨rfl, .inr ?_⟩; simp only [go_sem, seval, reduceCtorEq, hin, hout, q1, q2]; first | done | omega | (refine ⟨?_, ?_⟩ <;> omega)) | (simp_all; done))
end
end Go.Sx
