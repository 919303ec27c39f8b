import Derived.Test.YtndchmmclfidgaaDoorGxR
import Derived.Test.YtndchmmclfidgaaDoorGrB
set_option maxRecDepth 100000
set_option linter.unusedSimpArgs false
set_option linter.unusedVariables false
set_option linter.unnecessarySimpa false
namespace Go.Sx
open Go Go.Lg Go.Proofs
theorem b79 {gl : GL} : Body (C gl).P 79 Tryd.f79 (codeOf Tryd.f79) := ⟨Tryd.func79, by kernel_rfl, by kernel_rfl⟩
theorem b80 {gl : GL} : Body (C gl).P 80 Tryd.f80 (codeOf Tryd.f80) := ⟨Tryd.func80, by kernel_rfl, by kernel_rfl⟩
theorem b22 {gl : GL} : Body (C gl).P 22 Tryd.f22 (codeOf Tryd.f22) := ⟨Tryd.func22, by kernel_rfl, by kernel_rfl⟩

def okN (n o v : Int) (len : Nat) : Bool := decide (arF o = len) && (if o = 2 then decide (0 ≤ v) && decide (v < n) else decide (v = 0))
mutual
def shapedR (n : Int) : Fm → Bool
  | .mk o v l => okN n o v l.length && shapedRL n l
def shapedRL (n : Int) : List Fm → Bool
  | [] => true
  | f :: l => shapedR n f && shapedRL n l
end
theorem shapedRL_all (n : Int) : ∀ l : List Fm, shapedRL n l = l.all (shapedR n)
  | [] => rfl
  | f :: l => by simp [shapedRL, shapedRL_all n l]
section
variable {gl : GL}
theorem shaped_k (n o v : Int) (l : List Fm) (hlen : l.length < 9223372036854775807) (ih : ∀ g ∈ l, PCall (C gl) 119 [encF g, .int .i64 n] (.bool (shapedR n g))) :
    PCall (C gl) 119 [encF (.mk o v l), .int .i64 n] (.bool (shapedR n (.mk o v l))) := by
  refine pcallX (callX_of b119 (by simp [Tryd.ntmps119]) ?_) (by simp only [AllCl, cl_encF, cl_int, and_true]) (.bool _)
  refine W.of ?_
  rw [Tryd.ntmps119]
  simp only [toK, codeOf, Tryd.f119, go_sem, seval, reduceCtorEq]
  try simp only [go_sem, seval, reduceCtorEq, encF]
  repeat (first | refine WK.blockSeq ?_ | refine WK.blockCond ?_ | refine WK.blockReg ?_ | (refine WK.condT ?_ ?_; (focus (simp only [go_sem, seval, reduceCtorEq, encF]; done))) | (refine WK.condF ?_ ?_; (focus (simp only [go_sem, seval, reduceCtorEq, encF]; done))) | refine WK.seq ?_ | ((first | refine WK.reg ?_ | refine WK.skip ?_ | refine WK.ret ?_ | refine WK.exit ?_); simp only [go_sem, seval, reduceCtorEq, encF]) | ((with_reducible refine And.intro ?_ ?_); omega) | omega)
  refine WK.joinB [1, 2] [39] [.bool (!okN n o v l.length)] (Sto.none.add (.box [.int .i64 o, .int .i64 v, .list false (encFs l)])) ?_ ?_
  · refine WK.draw [⟨false, 0, 0⟩, ⟨false, 0, 0⟩, ⟨true, 0, 0⟩, ⟨false, 0, 0⟩, ⟨false, 1, 0⟩, ⟨false, 1, 0⟩, ⟨false, 0, 0⟩, ⟨false, 0, 0⟩, ⟨false, 0, 0⟩, ⟨false, 0, 0⟩, ⟨false, 0, 0⟩, ⟨false, 0, 0⟩, ⟨false, 0, 0⟩, ⟨false, 0, 0⟩, ⟨false, 0, 0⟩, ⟨false, 0, 0⟩, ⟨false, 0, 0⟩, ⟨false, 0, 0⟩, ⟨false, 0, 0⟩, ⟨false, 0, 0⟩, ⟨false, 0, 0⟩, ⟨false, 0, 0⟩, ⟨false, 0, 0⟩, ⟨false, 0, 0⟩, ⟨false, 0, 0⟩, ⟨false, 0, 0⟩, ⟨false, 0, 0⟩, ⟨false, 0, 0⟩, ⟨false, 0, 0⟩, ⟨false, 0, 0⟩, ⟨false, 0, 0⟩, ⟨false, 0, 0⟩, ⟨false, 0, 0⟩] mixed (by kernel_rfl) ?_
    simp only [go_sem, seval, reduceCtorEq]
    refine callD_pure (arity_ok (gl := gl) o) rfl ?_ ?_ ?_ <;> simp only [go_sem, seval, reduceCtorEq]
    simp only [go_sem, seval, reduceCtorEq, encFs_len, bne]
    by_cases hA : arF o = (l.length : Int)
    · have hA' : (arF o == (l.length : Int)) = true := by simpa using hA
      by_cases h2 : o = 2
      · have h2' : (o == 2) = true := by simpa using h2
        by_cases h3 : v < 0
        · have e : okN n o v l.length = false := by unfold okN; rw [if_pos h2]; simp; intros; omega
          simp only [go_sem, seval, reduceCtorEq, bne, e, hA', h2', h3, decide_true, decide_false]
        · by_cases h4 : v ≥ n
          · have e : okN n o v l.length = false := by unfold okN; rw [if_pos h2]; simp; intros; omega
            simp only [go_sem, seval, reduceCtorEq, bne, e, hA', h2', h3, h4, decide_true, decide_false]
          · have e : okN n o v l.length = true := by unfold okN; rw [if_pos h2, hA]; simp; omega
            simp only [go_sem, seval, reduceCtorEq, bne, e, hA', h2', h3, h4, decide_true, decide_false]
      · have h2' : (o == 2) = false := by simpa using h2
        by_cases h3 : v = 0
        · have e : okN n o v l.length = true := by unfold okN; rw [if_neg h2, hA]; simp; omega
          have h3' : (v == 0) = true := by simpa using h3
          simp only [go_sem, seval, reduceCtorEq, bne, e, hA', h2', h3']
        · have e : okN n o v l.length = false := by unfold okN; rw [if_neg h2]; simp; intros; omega
          have h3' : (v == 0) = false := by simpa using h3
          simp only [go_sem, seval, reduceCtorEq, bne, e, hA', h2', h3']
    · have hA' : (arF o == (l.length : Int)) = false := by simpa using hA
      have e : okN n o v l.length = false := by unfold okN; simp [hA]
      simp only [go_sem, seval, reduceCtorEq, bne, e, hA']
  simp only [go_sem, seval, reduceCtorEq]
  refine WK.cond _ (by simp only [go_sem, seval, reduceCtorEq]; rfl) (fun h => ?_) (fun h => ?_)
  · try simp only [go_sem, seval, reduceCtorEq]
    repeat (first | refine WK.blockSeq ?_ | refine WK.blockCond ?_ | refine WK.blockReg ?_ | (refine WK.condT ?_ ?_; (focus (simp only [go_sem, seval, reduceCtorEq]; done))) | (refine WK.condF ?_ ?_; (focus (simp only [go_sem, seval, reduceCtorEq]; done))) | refine WK.seq ?_ | ((first | refine WK.reg ?_ | refine WK.skip ?_ | refine WK.ret ?_ | refine WK.exit ?_); simp only [go_sem, seval, reduceCtorEq]) | ((with_reducible refine And.intro ?_ ?_); omega) | omega)
    have h' : okN n o v l.length = false := by simpa using h
    simp [shapedR, h']
    refine Cut.by' (by first | exact Nat.le_refl _ | (simp only [Sto.get_add, Sto.get_set, Sto.get_del, Sto.get_none, Sto.next_add, Sto.next_set, Sto.next_del, Sto.next_none]; omega)) (by first | exact Nat.le_refl _ | (simp only [Sto.get_add, Sto.get_set, Sto.get_del, Sto.get_none, Sto.next_add, Sto.next_set, Sto.next_del, Sto.next_none]; omega)) (fun i hi => ?_) (fun i o hi ho => ?_)
    · (try simp only [Sto.get_add, Sto.get_set, Sto.get_del, Sto.get_none, Sto.next_add, Sto.next_set, Sto.next_del, Sto.next_none] at hi ⊢); ((repeat' split) <;> first | exact .inl rfl | exact .inr rfl | omega | (simp_all; done))
    · (try simp only [Sto.get_add, Sto.get_set, Sto.get_del, Sto.get_none, Sto.next_add, Sto.next_set, Sto.next_del, Sto.next_none] at hi ho ⊢); ((repeat' split at ho) <;> (repeat' split) <;> first | (exact ⟨ho, .inl ho⟩) | (cases ho; done) | omega | (cases ho; refine ⟨rfl, .inl rfl⟩) | (cases ho; refine ⟨rfl, .inr ?_⟩; simp only [go_sem, seval, reduceCtorEq]; first | done | omega | (refine ⟨?_, ?_⟩ <;> omega)) | (simp_all; done))
  · have h' : okN n o v l.length = true := by simpa using h
    try simp only [go_sem, seval, reduceCtorEq, encFs_len]
    repeat (first | refine WK.blockSeq ?_ | refine WK.blockCond ?_ | refine WK.blockReg ?_ | (refine WK.condT ?_ ?_; (focus (simp only [go_sem, seval, reduceCtorEq, encFs_len]; done))) | (refine WK.condF ?_ ?_; (focus (simp only [go_sem, seval, reduceCtorEq, encFs_len]; done))) | refine WK.seq ?_ | ((first | refine WK.reg ?_ | refine WK.skip ?_ | refine WK.ret ?_ | refine WK.exit ?_); simp only [go_sem, seval, reduceCtorEq, encFs_len]) | ((with_reducible refine And.intro ?_ ?_); omega) | omega)
    refine WK.rangeI (l.length) [1, 2, 41] [] (fun i => []) (fun i => Sto.none.add (.box [.int .i64 o, .int .i64 v, .list false (encFs l)])) (fun i => ∀ g ∈ l.take i, shapedR n g = true) (by simp) (by omega) (by decide) (by simp only [go_sem, seval, reduceCtorEq]) (by simp only [go_sem, seval, reduceCtorEq]) (by simp only [go_sem, seval, reduceCtorEq, List.take_zero]) (by first | rfl | (simp only [go_sem, seval, reduceCtorEq]; done) | (refine Sto.ext' (by simp only [go_sem, seval, reduceCtorEq]) (fun i => ?_); simp only [go_sem, seval, reduceCtorEq]; repeat' split; all_goals (first | rfl | omega | simp_all))) ?_ ?_
    · intro i hi hI
      simp only [go_sem, seval, reduceCtorEq]
      try simp only [go_sem, seval, reduceCtorEq, encFs_len, encFs_get, hi, encF_eq]
      repeat (first | refine WK.blockSeq ?_ | refine WK.blockCond ?_ | refine WK.blockReg ?_ | (refine WK.condT ?_ ?_; (focus (simp only [go_sem, seval, reduceCtorEq, encFs_len, encFs_get, hi, encF_eq]; done))) | (refine WK.condF ?_ ?_; (focus (simp only [go_sem, seval, reduceCtorEq, encFs_len, encFs_get, hi, encF_eq]; done))) | refine WK.seq ?_ | ((first | refine WK.reg ?_ | refine WK.skip ?_ | refine WK.ret ?_ | refine WK.exit ?_); simp only [go_sem, seval, reduceCtorEq, encFs_len, encFs_get, hi, encF_eq]) | ((with_reducible refine And.intro ?_ ?_); omega) | omega)
      refine callK_pureL (ih l[i] (List.getElem_mem hi)) rfl ?_ ?_ ?_ <;> simp only [go_sem, seval, reduceCtorEq, encF_eq]
      try simp only [go_sem, seval, reduceCtorEq]
      repeat (first | refine WK.blockSeq ?_ | refine WK.blockCond ?_ | refine WK.blockReg ?_ | (refine WK.condT ?_ ?_; (focus (simp only [go_sem, seval, reduceCtorEq]; done))) | (refine WK.condF ?_ ?_; (focus (simp only [go_sem, seval, reduceCtorEq]; done))) | refine WK.seq ?_ | ((first | refine WK.reg ?_ | refine WK.skip ?_ | refine WK.ret ?_ | refine WK.exit ?_); simp only [go_sem, seval, reduceCtorEq]) | ((with_reducible refine And.intro ?_ ?_); omega) | omega)
      refine WK.cond _ (by simp only [go_sem, seval, reduceCtorEq]; rfl) (fun h2 => ?_) (fun h2 => ?_)
      · have h2' : shapedR n l[i] = false := by simpa using h2
        try simp only [go_sem, seval, reduceCtorEq]
        repeat (first | refine WK.blockSeq ?_ | refine WK.blockCond ?_ | refine WK.blockReg ?_ | (refine WK.condT ?_ ?_; (focus (simp only [go_sem, seval, reduceCtorEq]; done))) | (refine WK.condF ?_ ?_; (focus (simp only [go_sem, seval, reduceCtorEq]; done))) | refine WK.seq ?_ | ((first | refine WK.reg ?_ | refine WK.skip ?_ | refine WK.ret ?_ | refine WK.exit ?_); simp only [go_sem, seval, reduceCtorEq]) | ((with_reducible refine And.intro ?_ ?_); omega) | omega)
        have : shapedRL n l = false := by
          rw [shapedRL_all]
          exact Bool.eq_false_iff.2 fun hk => by
            have := List.all_eq_true.1 hk _ (List.getElem_mem hi)
            rw [h2'] at this; cases this
        refine ⟨by simp [shapedR, this], ?_⟩
        refine Cut.by' (by first | exact Nat.le_refl _ | (simp only [Sto.get_add, Sto.get_set, Sto.get_del, Sto.get_none, Sto.next_add, Sto.next_set, Sto.next_del, Sto.next_none]; omega)) (by first | exact Nat.le_refl _ | (simp only [Sto.get_add, Sto.get_set, Sto.get_del, Sto.get_none, Sto.next_add, Sto.next_set, Sto.next_del, Sto.next_none]; omega)) (fun i hi => ?_) (fun i o hi ho => ?_)
        · (try simp only [Sto.get_add, Sto.get_set, Sto.get_del, Sto.get_none, Sto.next_add, Sto.next_set, Sto.next_del, Sto.next_none] at hi ⊢); ((repeat' split) <;> first | exact .inl rfl | exact .inr rfl | omega | (simp_all; done))
        · (try simp only [Sto.get_add, Sto.get_set, Sto.get_del, Sto.get_none, Sto.next_add, Sto.next_set, Sto.next_del, Sto.next_none] at hi ho ⊢); ((repeat' split at ho) <;> (repeat' split) <;> first | (exact ⟨ho, .inl ho⟩) | (cases ho; done) | omega | (cases ho; refine ⟨rfl, .inl rfl⟩) | (cases ho; refine ⟨rfl, .inr ?_⟩; simp only [go_sem, seval, reduceCtorEq]; first | done | omega | (refine ⟨?_, ?_⟩ <;> omega)) | (simp_all; done))
      · have h2' : shapedR n l[i] = true := by simpa using h2
        try simp only [go_sem, seval, reduceCtorEq]
        repeat (first | refine WK.blockSeq ?_ | refine WK.blockCond ?_ | refine WK.blockReg ?_ | (refine WK.condT ?_ ?_; (focus (simp only [go_sem, seval, reduceCtorEq]; done))) | (refine WK.condF ?_ ?_; (focus (simp only [go_sem, seval, reduceCtorEq]; done))) | refine WK.seq ?_ | ((first | refine WK.reg ?_ | refine WK.skip ?_ | refine WK.ret ?_ | refine WK.exit ?_); simp only [go_sem, seval, reduceCtorEq]) | ((with_reducible refine And.intro ?_ ?_); omega) | omega)
        refine ⟨?_, ?_⟩
        · intro g hg
          rw [← List.take_append_getElem hi, List.mem_append, List.mem_singleton] at hg
          rcases hg with hg | rfl
          · exact hI g hg
          · exact h2'
        refine Cut.by' (by first | exact Nat.le_refl _ | (simp only [Sto.get_add, Sto.get_set, Sto.get_del, Sto.get_none, Sto.next_add, Sto.next_set, Sto.next_del, Sto.next_none]; omega)) (by first | exact Nat.le_refl _ | (simp only [Sto.get_add, Sto.get_set, Sto.get_del, Sto.get_none, Sto.next_add, Sto.next_set, Sto.next_del, Sto.next_none]; omega)) (fun i hi => ?_) (fun i o hi ho => ?_)
        · (try simp only [Sto.get_add, Sto.get_set, Sto.get_del, Sto.get_none, Sto.next_add, Sto.next_set, Sto.next_del, Sto.next_none] at hi ⊢); ((repeat' split) <;> first | exact .inl rfl | exact .inr rfl | omega | (simp_all; done))
        · (try simp only [Sto.get_add, Sto.get_set, Sto.get_del, Sto.get_none, Sto.next_add, Sto.next_set, Sto.next_del, Sto.next_none] at hi ho ⊢); ((repeat' split at ho) <;> (repeat' split) <;> first | (exact ⟨ho, .inl ho⟩) | (cases ho; done) | omega | (cases ho; refine ⟨rfl, .inl rfl⟩) | (cases ho; refine ⟨rfl, .inr ?_⟩; simp only [go_sem, seval, reduceCtorEq]; first | done | omega | (refine ⟨?_, ?_⟩ <;> omega)) | (simp_all; done))
    · intro hI
      simp only [go_sem, seval, reduceCtorEq]
      try simp only [go_sem, seval, reduceCtorEq]
      repeat (first | refine WK.blockSeq ?_ | refine WK.blockCond ?_ | refine WK.blockReg ?_ | (refine WK.condT ?_ ?_; (focus (simp only [go_sem, seval, reduceCtorEq]; done))) | (refine WK.condF ?_ ?_; (focus (simp only [go_sem, seval, reduceCtorEq]; done))) | refine WK.seq ?_ | ((first | refine WK.reg ?_ | refine WK.skip ?_ | refine WK.ret ?_ | refine WK.exit ?_); simp only [go_sem, seval, reduceCtorEq]) | ((with_reducible refine And.intro ?_ ?_); omega) | omega)
      refine ⟨?_, ?_⟩
      · rw [List.take_length] at hI
        simp only [shapedR, h', shapedRL_all, Bool.true_and]
        exact (List.all_eq_true.2 hI).symm
      refine Cut.by' (by first | exact Nat.le_refl _ | (simp only [Sto.get_add, Sto.get_set, Sto.get_del, Sto.get_none, Sto.next_add, Sto.next_set, Sto.next_del, Sto.next_none]; omega)) (by first | exact Nat.le_refl _ | (simp only [Sto.get_add, Sto.get_set, Sto.get_del, Sto.get_none, Sto.next_add, Sto.next_set, Sto.next_del, Sto.next_none]; omega)) (fun i hi => ?_) (fun i o hi ho => ?_)
      · (try simp only [Sto.get_add, Sto.get_set, Sto.get_del, Sto.get_none, Sto.next_add, Sto.next_set, Sto.next_del, Sto.next_none] at hi ⊢); ((repeat' split) <;> first | exact .inl rfl | exact .inr rfl | omega | (simp_all; done))
      · (try simp only [Sto.get_add, Sto.get_set, Sto.get_del, Sto.get_none, Sto.next_add, Sto.next_set, Sto.next_del, Sto.next_none] at hi ho ⊢); ((repeat' split at ho) <;> (repeat' split) <;> first | (exact ⟨ho, .inl ho⟩) | (cases ho; done) | omega | (cases ho; refine ⟨rfl, .inl rfl⟩) | (cases ho; refine ⟨rfl, .inr ?_⟩; simp only [go_sem, seval, reduceCtorEq]; first | done | omega | (refine ⟨?_, ?_⟩ <;> omega)) | (simp_all; done))
theorem shaped_ok (n : Int) (f : Fm) : Shrt f → PCall (C gl) 119 [encF f, .int .i64 n] (.bool (shapedR n f)) := by
  induction f using Fm.ind with
  | h o v l ih =>
    intro hs
    simp only [Shrt] at hs
    exact shaped_k n o v l hs.1 fun g hg => ih g hg (hs.2.mem g hg)

end
/-! ### Valid, in terms of nodes -/
theorem hand_iff (n : Int) : ∀ (xs : List Fm) (k : Nat), (handT (vStep n) (·.2) (k, true) xs).2 = true ↔ (xs = [] ∨ k + xs.length ≤ 60) ∧ ∀ g ∈ xs, okNode n g = true
  | [], k => by simp [handT]
  | x :: xs, k => by
    have hs : vStep n (k, true) x = (k + 1, decide (k + 1 ≤ 60) && okNode n x) := rfl
    by_cases h : (decide (k + 1 ≤ 60) && okNode n x) = true
    · have h' := h
      simp only [Bool.and_eq_true, decide_eq_true_eq] at h
      simp only [handT, hs, h', if_true]
      rw [hand_iff n xs (k + 1)]
      simp only [List.mem_cons, forall_eq_or_imp, List.length_cons, reduceCtorEq, false_or]
      constructor
      · rintro ⟨h1, h2⟩
        refine ⟨?_, h.2, h2⟩
        rcases h1 with rfl | h1
        · simp; omega
        · omega
      · rintro ⟨h1, _, h2⟩
        exact ⟨.inr (by omega), h2⟩
    · have h' : (decide (k + 1 ≤ 60) && okNode n x) = false := by simpa using h
      simp only [handT, hs, h', Bool.false_eq_true, if_false, false_iff]
      rintro ⟨h1, h2⟩
      have h3 := h2 x List.mem_cons_self
      simp only [List.length_cons, reduceCtorEq, false_or] at h1
      apply h
      simp [h3]; omega
theorem nodesF_ne (f : Fm) : nodesF f ≠ [] := by cases f; simp [nodesF]
theorem validF_iff (f : Fm) (n : Int) : validF f n = true ↔ 0 ≤ n ∧ n ≤ 6 ∧ (nodesF f).length ≤ 60 ∧ ∀ g ∈ nodesF f, okNode n g = true := by
  unfold validF
  simp only [Bool.and_eq_true, decide_eq_true_eq, hand_iff, nodesF_ne, false_or, Nat.zero_add, and_assoc]
mutual
theorem nodesR_min : ∀ (f : Fm) (m : Int), 0 ≤ m → nodesR m f = min ((nodesF f).length : Int) (m + 1)
  | .mk _ _ l, m, h => by
    simp only [nodesR, nodesF, List.length_cons]
    rw [nodesRL_min l m 1 (by omega) (by omega)]
    omega
theorem nodesRL_min : ∀ (l : List Fm) (m n : Int), 1 ≤ n → n ≤ m + 1 → nodesRL m l n = min (n + ((nodesL l).length : Int)) (m + 1)
  | [], m, n, h1, h2 => by simp only [nodesRL, nodesL, List.length_nil]; omega
  | f :: l, m, n, h1, h2 => by
    simp only [nodesRL, nodesL, List.length_append]
    by_cases h : n ≤ m
    · rw [if_pos h, nodesR_min f (m - n) (by omega), nodesRL_min l m _ (by omega) (by omega)]
      omega
    · rw [if_neg h, nodesRL_min l m n h1 h2]
      omega
end
theorem okN_node (n o v : Int) (l : List Fm) : okN n o v l.length = okNode n (.mk o v l) := by
  have e1 : Fm.op (.mk o v l) = o := rfl
  have e2 : Fm.var (.mk o v l) = v := rfl
  have e3 : Fm.args (.mk o v l) = l := rfl
  unfold okN okNode arF
  rw [e1, e2, e3]
  by_cases h : 0 ≤ o ∧ o ≤ 13
  · rw [if_pos h]
    have h1 : decide (0 ≤ o) = true := by simpa using h.1
    have h2 : decide (o ≤ 13) = true := by simpa using h.2
    have h3 : (arityL.getD o.toNat 0 = (l.length : Int)) = ((l.length : Int) = arityL.getD o.toNat 0) := propext ⟨Eq.symm, Eq.symm⟩
    simp only [h1, h2, h3, Bool.true_and]
  · rw [if_neg h]
    have h1 : decide ((-1 : Int) = (l.length : Int)) = false := by simp
    have h2 : (decide (0 ≤ o) && decide (o ≤ 13)) = false := by
      rw [Bool.and_eq_false_iff]; simp only [decide_eq_false_iff_not]; omega
    rw [h1, h2, Bool.false_and, Bool.false_and, Bool.false_and]
mutual
theorem shapedR_iff (n : Int) : ∀ f : Fm, shapedR n f = true ↔ ∀ g ∈ nodesF f, okNode n g = true
  | .mk o v l => by
    simp only [shapedR, nodesF, Bool.and_eq_true, List.mem_cons, forall_eq_or_imp, okN_node, shapedRL_iff n l]
theorem shapedRL_iff (n : Int) : ∀ l : List Fm, shapedRL n l = true ↔ ∀ g ∈ nodesL l, okNode n g = true
  | [] => by simp [shapedRL, nodesL]
  | f :: l => by
    simp only [shapedRL, nodesL, Bool.and_eq_true, List.mem_append, shapedR_iff n f, shapedRL_iff n l]
    constructor
    · rintro ⟨h1, h2⟩ g (h | h)
      · exact h1 g h
      · exact h2 g h
    · intro h; exact ⟨fun g hg => h g (.inl hg), fun g hg => h g (.inr hg)⟩
end
theorem validF_ref (f : Fm) (n : Int) : (decide (n ≥ 0) && (decide (n ≤ 6) && (decide (nodesR 60 f ≤ 60) && shapedR n f))) = validF f n := by
  rw [Bool.eq_iff_iff, validF_iff]
  simp only [Bool.and_eq_true, decide_eq_true_eq, shapedR_iff, nodesR_min f 60 (by omega)]
  constructor
  · rintro ⟨h1, h2, h3, h4⟩; exact ⟨h1, h2, by omega, h4⟩
  · rintro ⟨h1, h2, h3, h4⟩; exact ⟨h1, h2, by omega, h4⟩

section
variable {gl : GL}
theorem validR_ok (f : Fm) (hs : Shrt f) (n : Int) : PCall (C gl) 58 [encF f, .int .i64 n] (.bool (validF f n)) := by
  refine pcallX (callX_of b58 (by simp [Tryd.ntmps58]) ?_) (by simp only [AllCl, cl_encF, cl_int, and_true]) (.bool _)
  rw [← validF_ref]
  refine W.of ?_
  rw [Tryd.ntmps58]
  simp only [toK, codeOf, Tryd.f58, go_sem, seval, reduceCtorEq]
  by_cases h1 : n ≥ 0
  · by_cases h2 : n ≤ 6
    · try simp only [go_sem, seval, reduceCtorEq, encF_eq, h1, h2, decide_true]
      repeat (first | refine WK.blockSeq ?_ | refine WK.blockCond ?_ | refine WK.blockReg ?_ | (refine WK.condT ?_ ?_; (focus (simp only [go_sem, seval, reduceCtorEq, encF_eq, h1, h2, decide_true]; done))) | (refine WK.condF ?_ ?_; (focus (simp only [go_sem, seval, reduceCtorEq, encF_eq, h1, h2, decide_true]; done))) | refine WK.seq ?_ | ((first | refine WK.reg ?_ | refine WK.skip ?_ | refine WK.ret ?_ | refine WK.exit ?_); simp only [go_sem, seval, reduceCtorEq, encF_eq, h1, h2, decide_true]) | ((with_reducible refine And.intro ?_ ?_); omega) | omega)
      refine callK_pureL (nodesR_ok f hs 60 (by omega) (by omega)) rfl ?_ ?_ ?_ <;> simp only [go_sem, seval, reduceCtorEq, encF_eq]
      by_cases h3 : nodesR 60 f ≤ 60
      · try simp only [go_sem, seval, reduceCtorEq, encF_eq, h3, decide_true]
        repeat (first | refine WK.blockSeq ?_ | refine WK.blockCond ?_ | refine WK.blockReg ?_ | (refine WK.condT ?_ ?_; (focus (simp only [go_sem, seval, reduceCtorEq, encF_eq, h3, decide_true]; done))) | (refine WK.condF ?_ ?_; (focus (simp only [go_sem, seval, reduceCtorEq, encF_eq, h3, decide_true]; done))) | refine WK.seq ?_ | ((first | refine WK.reg ?_ | refine WK.skip ?_ | refine WK.ret ?_ | refine WK.exit ?_); simp only [go_sem, seval, reduceCtorEq, encF_eq, h3, decide_true]) | ((with_reducible refine And.intro ?_ ?_); omega) | omega)
        refine callK_pureL (shaped_ok (gl := gl) n f hs) rfl ?_ ?_ ?_ <;> simp only [go_sem, seval, reduceCtorEq, encF_eq]
        try simp only [go_sem, seval, reduceCtorEq, h1, h2, h3, decide_true, Bool.true_and]
        repeat (first | refine WK.blockSeq ?_ | refine WK.blockCond ?_ | refine WK.blockReg ?_ | (refine WK.condT ?_ ?_; (focus (simp only [go_sem, seval, reduceCtorEq, h1, h2, h3, decide_true, Bool.true_and]; done))) | (refine WK.condF ?_ ?_; (focus (simp only [go_sem, seval, reduceCtorEq, h1, h2, h3, decide_true, Bool.true_and]; done))) | refine WK.seq ?_ | ((first | refine WK.reg ?_ | refine WK.skip ?_ | refine WK.ret ?_ | refine WK.exit ?_); simp only [go_sem, seval, reduceCtorEq, h1, h2, h3, decide_true, Bool.true_and]) | ((with_reducible refine And.intro ?_ ?_); omega) | omega)
        refine Cut.by' (by first | exact Nat.le_refl _ | (simp only [Sto.get_add, Sto.get_set, Sto.get_del, Sto.get_none, Sto.next_add, Sto.next_set, Sto.next_del, Sto.next_none]; omega)) (by first | exact Nat.le_refl _ | (simp only [Sto.get_add, Sto.get_set, Sto.get_del, Sto.get_none, Sto.next_add, Sto.next_set, Sto.next_del, Sto.next_none]; omega)) (fun i hi => ?_) (fun i o hi ho => ?_)
        · (try simp only [Sto.get_add, Sto.get_set, Sto.get_del, Sto.get_none, Sto.next_add, Sto.next_set, Sto.next_del, Sto.next_none] at hi ⊢); ((repeat' split) <;> first | exact .inl rfl | exact .inr rfl | omega | (simp_all; done))
        · (try simp only [Sto.get_add, Sto.get_set, Sto.get_del, Sto.get_none, Sto.next_add, Sto.next_set, Sto.next_del, Sto.next_none] at hi ho ⊢); ((repeat' split at ho) <;> (repeat' split) <;> first | (exact ⟨ho, .inl ho⟩) | (cases ho; done) | omega | (cases ho; refine ⟨rfl, .inl rfl⟩) | (cases ho; refine ⟨rfl, .inr ?_⟩; simp only [go_sem, seval, reduceCtorEq]; first | done | omega | (refine ⟨?_, ?_⟩ <;> omega)) | (simp_all; done))
      · try simp only [go_sem, seval, reduceCtorEq, encF_eq, h3, decide_false, h1, h2, Bool.false_and, Bool.and_false]
        repeat (first | refine WK.blockSeq ?_ | refine WK.blockCond ?_ | refine WK.blockReg ?_ | (refine WK.condT ?_ ?_; (focus (simp only [go_sem, seval, reduceCtorEq, encF_eq, h3, decide_false, h1, h2, Bool.false_and, Bool.and_false]; done))) | (refine WK.condF ?_ ?_; (focus (simp only [go_sem, seval, reduceCtorEq, encF_eq, h3, decide_false, h1, h2, Bool.false_and, Bool.and_false]; done))) | refine WK.seq ?_ | ((first | refine WK.reg ?_ | refine WK.skip ?_ | refine WK.ret ?_ | refine WK.exit ?_); simp only [go_sem, seval, reduceCtorEq, encF_eq, h3, decide_false, h1, h2, Bool.false_and, Bool.and_false]) | ((with_reducible refine And.intro ?_ ?_); omega) | omega)
        refine Cut.by' (by first | exact Nat.le_refl _ | (simp only [Sto.get_add, Sto.get_set, Sto.get_del, Sto.get_none, Sto.next_add, Sto.next_set, Sto.next_del, Sto.next_none]; omega)) (by first | exact Nat.le_refl _ | (simp only [Sto.get_add, Sto.get_set, Sto.get_del, Sto.get_none, Sto.next_add, Sto.next_set, Sto.next_del, Sto.next_none]; omega)) (fun i hi => ?_) (fun i o hi ho => ?_)
        · (try simp only [Sto.get_add, Sto.get_set, Sto.get_del, Sto.get_none, Sto.next_add, Sto.next_set, Sto.next_del, Sto.next_none] at hi ⊢); ((repeat' split) <;> first | exact .inl rfl | exact .inr rfl | omega | (simp_all; done))
        · (try simp only [Sto.get_add, Sto.get_set, Sto.get_del, Sto.get_none, Sto.next_add, Sto.next_set, Sto.next_del, Sto.next_none] at hi ho ⊢); ((repeat' split at ho) <;> (repeat' split) <;> first | (exact ⟨ho, .inl ho⟩) | (cases ho; done) | omega | (cases ho; refine ⟨rfl, .inl rfl⟩) | (cases ho; refine ⟨rfl, .inr ?_⟩; simp only [go_sem, seval, reduceCtorEq]; first | done | omega | (refine ⟨?_, ?_⟩ <;> omega)) | (simp_all; done))
    · try simp only [go_sem, seval, reduceCtorEq, encF_eq, h1, h2, decide_true, decide_false, Bool.false_and, Bool.and_false]
      repeat (first | refine WK.blockSeq ?_ | refine WK.blockCond ?_ | refine WK.blockReg ?_ | (refine WK.condT ?_ ?_; (focus (simp only [go_sem, seval, reduceCtorEq, encF_eq, h1, h2, decide_true, decide_false, Bool.false_and, Bool.and_false]; done))) | (refine WK.condF ?_ ?_; (focus (simp only [go_sem, seval, reduceCtorEq, encF_eq, h1, h2, decide_true, decide_false, Bool.false_and, Bool.and_false]; done))) | refine WK.seq ?_ | ((first | refine WK.reg ?_ | refine WK.skip ?_ | refine WK.ret ?_ | refine WK.exit ?_); simp only [go_sem, seval, reduceCtorEq, encF_eq, h1, h2, decide_true, decide_false, Bool.false_and, Bool.and_false]) | ((with_reducible refine And.intro ?_ ?_); omega) | omega)
      refine Cut.by' (by first | exact Nat.le_refl _ | (simp only [Sto.get_add, Sto.get_set, Sto.get_del, Sto.get_none, Sto.next_add, Sto.next_set, Sto.next_del, Sto.next_none]; omega)) (by first | exact Nat.le_refl _ | (simp only [Sto.get_add, Sto.get_set, Sto.get_del, Sto.get_none, Sto.next_add, Sto.next_set, Sto.next_del, Sto.next_none]; omega)) (fun i hi => ?_) (fun i o hi ho => ?_)
      · (try simp only [Sto.get_add, Sto.get_set, Sto.get_del, Sto.get_none, Sto.next_add, Sto.next_set, Sto.next_del, Sto.next_none] at hi ⊢); ((repeat' split) <;> first | exact .inl rfl | exact .inr rfl | omega | (simp_all; done))
      · (try simp only [Sto.get_add, Sto.get_set, Sto.get_del, Sto.get_none, Sto.next_add, Sto.next_set, Sto.next_del, Sto.next_none] at hi ho ⊢); ((repeat' split at ho) <;> (repeat' split) <;> first | (exact ⟨ho, .inl ho⟩) | (cases ho; done) | omega | (cases ho; refine ⟨rfl, .inl rfl⟩) | (cases ho; refine ⟨rfl, .inr ?_⟩; simp only [go_sem, seval, reduceCtorEq]; first | done | omega | (refine ⟨?_, ?_⟩ <;> omega)) | (simp_all; done))
  · try simp only [go_sem, seval, reduceCtorEq, encF_eq, h1, decide_false, Bool.false_and, Bool.and_false]
    repeat (first | refine WK.blockSeq ?_ | refine WK.blockCond ?_ | refine WK.blockReg ?_ | (refine WK.condT ?_ ?_; (focus (simp only [go_sem, seval, reduceCtorEq, encF_eq, h1, decide_false, Bool.false_and, Bool.and_false]; done))) | (refine WK.condF ?_ ?_; (focus (simp only [go_sem, seval, reduceCtorEq, encF_eq, h1, decide_false, Bool.false_and, Bool.and_false]; done))) | refine WK.seq ?_ | ((first | refine WK.reg ?_ | refine WK.skip ?_ | refine WK.ret ?_ | refine WK.exit ?_); simp only [go_sem, seval, reduceCtorEq, encF_eq, h1, decide_false, Bool.false_and, Bool.and_false]) | ((with_reducible refine And.intro ?_ ?_); omega) | omega)
    refine Cut.by' (by first | exact Nat.le_refl _ | (simp only [Sto.get_add, Sto.get_set, Sto.get_del, Sto.get_none, Sto.next_add, Sto.next_set, Sto.next_del, Sto.next_none]; omega)) (by first | exact Nat.le_refl _ | (simp only [Sto.get_add, Sto.get_set, Sto.get_del, Sto.get_none, Sto.next_add, Sto.next_set, Sto.next_del, Sto.next_none]; omega)) (fun i hi => ?_) (fun i o hi ho => ?_)
    · (try simp only [Sto.get_add, Sto.get_set, Sto.get_del, Sto.get_none, Sto.next_add, Sto.next_set, Sto.next_del, Sto.next_none] at hi ⊢); ((repeat' split) <;> first | exact .inl rfl | exact .inr rfl | omega | (simp_all; done))
    · (try simp only [Sto.get_add, Sto.get_set, Sto.get_del, Sto.get_none, Sto.next_add, Sto.next_set, Sto.next_del, Sto.next_none] at hi ho ⊢); ((repeat' split at ho) <;> (repeat' split) <;> first | (exact ⟨ho, .inl ho⟩) | (cases ho; done) | omega | (cases ho; refine ⟨rfl, .inl rfl⟩) | (cases ho; refine ⟨rfl, .inr ?_⟩; simp only [go_sem, seval, reduceCtorEq]; first | done | omega | (refine ⟨?_, ?_⟩ <;> omega)) | (simp_all; done))

end
def tempF (o : Int) : Bool := decide (8 ≤ o) && decide (o ≤ 13)
mutual
def plainR : Fm → Bool
  | .mk o _ l => plainRL l && !tempF o
def plainRL : List Fm → Bool
  | [] => true
  | f :: l => plainR f && plainRL l
end
theorem plainRL_all : ∀ l : List Fm, plainRL l = l.all plainR
  | [] => rfl
  | f :: l => by simp [plainRL, plainRL_all l]
mutual
def stepR (n : Int) : Fm → Bool
  | .mk o _ l => if o = 8 then (match l with | g :: _ => decide (g.op = 2) && decide (g.var < n) | [] => false) else stepRL n l && !tempF o
def stepRL (n : Int) : List Fm → Bool
  | [] => true
  | f :: l => stepR n f && stepRL n l
end
theorem stepRL_all (n : Int) : ∀ l : List Fm, stepRL n l = l.all (stepR n)
  | [] => rfl
  | f :: l => by simp [stepRL, stepRL_all n l]
theorem all_false {A : Type} {p : A → Bool} {l : List A} {i : Nat} (h : i < l.length) (hp : p l[i] = false) : l.all p = false :=
  Bool.eq_false_iff.2 fun hk => by
    have := List.all_eq_true.1 hk _ (List.getElem_mem h)
    rw [hp] at this; cases this
theorem take_step {A : Type} {p : A → Prop} {l : List A} {i : Nat} (h : i < l.length) (hI : ∀ g ∈ l.take i, p g) (hp : p l[i]) : ∀ g ∈ l.take (i + 1), p g := by
  intro g hg
  rw [← List.take_append_getElem h, List.mem_append, List.mem_singleton] at hg
  rcases hg with hg | rfl
  · exact hI g hg
  · exact hp
section
variable {gl : GL}
theorem plainR_k (o v : Int) (l : List Fm) (hlen : l.length < 9223372036854775807) (ih : ∀ g ∈ l, PCall (C gl) 79 [encF g] (.bool (plainR g))) :
    PCall (C gl) 79 [encF (.mk o v l)] (.bool (plainR (.mk o v l))) := by
  refine pcallX (callX_of b79 (by simp [Tryd.ntmps79]) ?_) (by simp only [AllCl, cl_encF, and_true]) (.bool _)
  refine W.of ?_
  rw [Tryd.ntmps79]
  simp only [toK, codeOf, Tryd.f79, go_sem, seval, reduceCtorEq]
  try simp only [go_sem, seval, reduceCtorEq, encFs_len, encF]
  repeat (first | refine WK.blockSeq ?_ | refine WK.blockCond ?_ | refine WK.blockReg ?_ | (refine WK.condT ?_ ?_; (focus (simp only [go_sem, seval, reduceCtorEq, encFs_len, encF]; done))) | (refine WK.condF ?_ ?_; (focus (simp only [go_sem, seval, reduceCtorEq, encFs_len, encF]; done))) | refine WK.seq ?_ | ((first | refine WK.reg ?_ | refine WK.skip ?_ | refine WK.ret ?_ | refine WK.exit ?_); simp only [go_sem, seval, reduceCtorEq, encFs_len, encF]) | ((with_reducible refine And.intro ?_ ?_); omega) | omega)
  refine WK.rangeI (l.length) [1, 6] [] (fun i => []) (fun i => Sto.none.add (.box [.int .i64 o, .int .i64 v, .list false (encFs l)])) (fun i => ∀ g ∈ l.take i, plainR g = true) (by simp) (by omega) (by decide) (by simp only [go_sem, seval, reduceCtorEq, encFs_len]) (by simp only [go_sem, seval, reduceCtorEq, encFs_len]) (by simp only [go_sem, seval, reduceCtorEq, encFs_len, List.take_zero]) (by first | rfl | (simp only [go_sem, seval, reduceCtorEq, encFs_len]; done) | (refine Sto.ext' (by simp only [go_sem, seval, reduceCtorEq, encFs_len]) (fun i => ?_); simp only [go_sem, seval, reduceCtorEq, encFs_len]; repeat' split; all_goals (first | rfl | omega | simp_all))) ?_ ?_
  · intro i hi hI
    simp only [go_sem, seval, reduceCtorEq, encFs_len]
    try simp only [go_sem, seval, reduceCtorEq, encFs_len, encFs_get, hi, encF_eq]
    repeat (first | refine WK.blockSeq ?_ | refine WK.blockCond ?_ | refine WK.blockReg ?_ | (refine WK.condT ?_ ?_; (focus (simp only [go_sem, seval, reduceCtorEq, encFs_len, encFs_get, hi, encF_eq]; done))) | (refine WK.condF ?_ ?_; (focus (simp only [go_sem, seval, reduceCtorEq, encFs_len, encFs_get, hi, encF_eq]; done))) | refine WK.seq ?_ | ((first | refine WK.reg ?_ | refine WK.skip ?_ | refine WK.ret ?_ | refine WK.exit ?_); simp only [go_sem, seval, reduceCtorEq, encFs_len, encFs_get, hi, encF_eq]) | ((with_reducible refine And.intro ?_ ?_); omega) | omega)
    refine callK_pureL (ih l[i] (List.getElem_mem hi)) rfl ?_ ?_ ?_ <;> simp only [go_sem, seval, reduceCtorEq, encFs_len, encF_eq]
    try simp only [go_sem, seval, reduceCtorEq, encFs_len]
    repeat (first | refine WK.blockSeq ?_ | refine WK.blockCond ?_ | refine WK.blockReg ?_ | (refine WK.condT ?_ ?_; (focus (simp only [go_sem, seval, reduceCtorEq, encFs_len]; done))) | (refine WK.condF ?_ ?_; (focus (simp only [go_sem, seval, reduceCtorEq, encFs_len]; done))) | refine WK.seq ?_ | ((first | refine WK.reg ?_ | refine WK.skip ?_ | refine WK.ret ?_ | refine WK.exit ?_); simp only [go_sem, seval, reduceCtorEq, encFs_len]) | ((with_reducible refine And.intro ?_ ?_); omega) | omega)
    refine WK.cond _ (by simp only [go_sem, seval, reduceCtorEq, encFs_len]; rfl) (fun h2 => ?_) (fun h2 => ?_)
    · have h2' : plainR l[i] = false := by simpa using h2
      try simp only [go_sem, seval, reduceCtorEq, encFs_len]
      repeat (first | refine WK.blockSeq ?_ | refine WK.blockCond ?_ | refine WK.blockReg ?_ | (refine WK.condT ?_ ?_; (focus (simp only [go_sem, seval, reduceCtorEq, encFs_len]; done))) | (refine WK.condF ?_ ?_; (focus (simp only [go_sem, seval, reduceCtorEq, encFs_len]; done))) | refine WK.seq ?_ | ((first | refine WK.reg ?_ | refine WK.skip ?_ | refine WK.ret ?_ | refine WK.exit ?_); simp only [go_sem, seval, reduceCtorEq, encFs_len]) | ((with_reducible refine And.intro ?_ ?_); omega) | omega)
      refine ⟨by simp [plainR, plainRL_all, all_false hi h2'], ?_⟩
      refine Cut.by' (by first | exact Nat.le_refl _ | (simp only [Sto.get_add, Sto.get_set, Sto.get_del, Sto.get_none, Sto.next_add, Sto.next_set, Sto.next_del, Sto.next_none]; omega)) (by first | exact Nat.le_refl _ | (simp only [Sto.get_add, Sto.get_set, Sto.get_del, Sto.get_none, Sto.next_add, Sto.next_set, Sto.next_del, Sto.next_none]; omega)) (fun i hi => ?_) (fun i o hi ho => ?_)
      · (try simp only [Sto.get_add, Sto.get_set, Sto.get_del, Sto.get_none, Sto.next_add, Sto.next_set, Sto.next_del, Sto.next_none] at hi ⊢); ((repeat' split) <;> first | exact .inl rfl | exact .inr rfl | omega | (simp_all; done))
      · (try simp only [Sto.get_add, Sto.get_set, Sto.get_del, Sto.get_none, Sto.next_add, Sto.next_set, Sto.next_del, Sto.next_none] at hi ho ⊢); ((repeat' split at ho) <;> (repeat' split) <;> first | (exact ⟨ho, .inl ho⟩) | (cases ho; done) | omega | (cases ho; refine ⟨rfl, .inl rfl⟩) | (cases ho; refine ⟨rfl, .inr ?_⟩; simp only [go_sem, seval, reduceCtorEq, encFs_len]; first | done | omega | (refine ⟨?_, ?_⟩ <;> omega)) | (simp_all; done))
    · have h2' : plainR l[i] = true := by simpa using h2
      try simp only [go_sem, seval, reduceCtorEq, encFs_len]
      repeat (first | refine WK.blockSeq ?_ | refine WK.blockCond ?_ | refine WK.blockReg ?_ | (refine WK.condT ?_ ?_; (focus (simp only [go_sem, seval, reduceCtorEq, encFs_len]; done))) | (refine WK.condF ?_ ?_; (focus (simp only [go_sem, seval, reduceCtorEq, encFs_len]; done))) | refine WK.seq ?_ | ((first | refine WK.reg ?_ | refine WK.skip ?_ | refine WK.ret ?_ | refine WK.exit ?_); simp only [go_sem, seval, reduceCtorEq, encFs_len]) | ((with_reducible refine And.intro ?_ ?_); omega) | omega)
      refine ⟨take_step hi hI h2', ?_⟩
      refine Cut.by' (by first | exact Nat.le_refl _ | (simp only [Sto.get_add, Sto.get_set, Sto.get_del, Sto.get_none, Sto.next_add, Sto.next_set, Sto.next_del, Sto.next_none]; omega)) (by first | exact Nat.le_refl _ | (simp only [Sto.get_add, Sto.get_set, Sto.get_del, Sto.get_none, Sto.next_add, Sto.next_set, Sto.next_del, Sto.next_none]; omega)) (fun i hi => ?_) (fun i o hi ho => ?_)
      · (try simp only [Sto.get_add, Sto.get_set, Sto.get_del, Sto.get_none, Sto.next_add, Sto.next_set, Sto.next_del, Sto.next_none] at hi ⊢); ((repeat' split) <;> first | exact .inl rfl | exact .inr rfl | omega | (simp_all; done))
      · (try simp only [Sto.get_add, Sto.get_set, Sto.get_del, Sto.get_none, Sto.next_add, Sto.next_set, Sto.next_del, Sto.next_none] at hi ho ⊢); ((repeat' split at ho) <;> (repeat' split) <;> first | (exact ⟨ho, .inl ho⟩) | (cases ho; done) | omega | (cases ho; refine ⟨rfl, .inl rfl⟩) | (cases ho; refine ⟨rfl, .inr ?_⟩; simp only [go_sem, seval, reduceCtorEq, encFs_len]; first | done | omega | (refine ⟨?_, ?_⟩ <;> omega)) | (simp_all; done))
  · intro hI
    rw [List.take_length] at hI
    simp only [go_sem, seval, reduceCtorEq, encFs_len]
    try simp only [go_sem, seval, reduceCtorEq, encFs_len]
    repeat (first | refine WK.blockSeq ?_ | refine WK.blockCond ?_ | refine WK.blockReg ?_ | (refine WK.condT ?_ ?_; (focus (simp only [go_sem, seval, reduceCtorEq, encFs_len]; done))) | (refine WK.condF ?_ ?_; (focus (simp only [go_sem, seval, reduceCtorEq, encFs_len]; done))) | refine WK.seq ?_ | ((first | refine WK.reg ?_ | refine WK.skip ?_ | refine WK.ret ?_ | refine WK.exit ?_); simp only [go_sem, seval, reduceCtorEq, encFs_len]) | ((with_reducible refine And.intro ?_ ?_); omega) | omega)
    refine callK_pureL (temporalR_ok (gl := gl) o) rfl ?_ ?_ ?_ <;> simp only [go_sem, seval, reduceCtorEq, encFs_len]
    try simp only [go_sem, seval, reduceCtorEq, encFs_len]
    repeat (first | refine WK.blockSeq ?_ | refine WK.blockCond ?_ | refine WK.blockReg ?_ | (refine WK.condT ?_ ?_; (focus (simp only [go_sem, seval, reduceCtorEq, encFs_len]; done))) | (refine WK.condF ?_ ?_; (focus (simp only [go_sem, seval, reduceCtorEq, encFs_len]; done))) | refine WK.seq ?_ | ((first | refine WK.reg ?_ | refine WK.skip ?_ | refine WK.ret ?_ | refine WK.exit ?_); simp only [go_sem, seval, reduceCtorEq, encFs_len]) | ((with_reducible refine And.intro ?_ ?_); omega) | omega)
    have e : plainRL l = true := by rw [plainRL_all]; exact List.all_eq_true.2 hI
    refine ⟨by simp [plainR, tempF, e], ?_⟩
    refine Cut.by' (by first | exact Nat.le_refl _ | (simp only [Sto.get_add, Sto.get_set, Sto.get_del, Sto.get_none, Sto.next_add, Sto.next_set, Sto.next_del, Sto.next_none]; omega)) (by first | exact Nat.le_refl _ | (simp only [Sto.get_add, Sto.get_set, Sto.get_del, Sto.get_none, Sto.next_add, Sto.next_set, Sto.next_del, Sto.next_none]; omega)) (fun i hi => ?_) (fun i o hi ho => ?_)
    · (try simp only [Sto.get_add, Sto.get_set, Sto.get_del, Sto.get_none, Sto.next_add, Sto.next_set, Sto.next_del, Sto.next_none] at hi ⊢); ((repeat' split) <;> first | exact .inl rfl | exact .inr rfl | omega | (simp_all; done))
    · (try simp only [Sto.get_add, Sto.get_set, Sto.get_del, Sto.get_none, Sto.next_add, Sto.next_set, Sto.next_del, Sto.next_none] at hi ho ⊢); ((repeat' split at ho) <;> (repeat' split) <;> first | (exact ⟨ho, .inl ho⟩) | (cases ho; done) | omega | (cases ho; refine ⟨rfl, .inl rfl⟩) | (cases ho; refine ⟨rfl, .inr ?_⟩; simp only [go_sem, seval, reduceCtorEq, encFs_len]; first | done | omega | (refine ⟨?_, ?_⟩ <;> omega)) | (simp_all; done))
theorem plainR_ok (f : Fm) : Shrt f → PCall (C gl) 79 [encF f] (.bool (plainR f)) := by
  induction f using Fm.ind with
  | h o v l ih =>
    intro hs
    simp only [Shrt] at hs
    exact plainR_k o v l hs.1 fun g hg => ih g hg (hs.2.mem g hg)

theorem stepR_k (n o v : Int) (l : List Fm) (hlen : l.length < 9223372036854775807) (h8 : o = 8 → 0 < l.length) (ih : ∀ g ∈ l, PCall (C gl) 80 [encF g, .int .i64 n] (.bool (stepR n g))) :
    PCall (C gl) 80 [encF (.mk o v l), .int .i64 n] (.bool (stepR n (.mk o v l))) := by
  refine pcallX (callX_of b80 (by simp [Tryd.ntmps80]) ?_) (by simp only [AllCl, cl_encF, cl_int, and_true]) (.bool _)
  refine W.of ?_
  rw [Tryd.ntmps80]
  simp only [toK, codeOf, Tryd.f80, go_sem, seval, reduceCtorEq]
  try simp only [go_sem, seval, reduceCtorEq, encFs_len, encF]
  repeat (first | refine WK.blockSeq ?_ | refine WK.blockCond ?_ | refine WK.blockReg ?_ | (refine WK.condT ?_ ?_; (focus (simp only [go_sem, seval, reduceCtorEq, encFs_len, encF]; done))) | (refine WK.condF ?_ ?_; (focus (simp only [go_sem, seval, reduceCtorEq, encFs_len, encF]; done))) | refine WK.seq ?_ | ((first | refine WK.reg ?_ | refine WK.skip ?_ | refine WK.ret ?_ | refine WK.exit ?_); simp only [go_sem, seval, reduceCtorEq, encFs_len, encF]) | ((with_reducible refine And.intro ?_ ?_); omega) | omega)
  refine WK.cond _ (by simp only [go_sem, seval, reduceCtorEq, encFs_len]; rfl) (fun h => ?_) (fun h => ?_)
  · have h' : o = 8 := by simpa using h
    obtain ⟨g, l', rfl⟩ : ∃ g l', l = g :: l' := by
      cases l with
      | nil => have := h8 h'; simp at this
      | cons g l' => exact ⟨g, l', rfl⟩
    by_cases h2 : g.op = 2
    · have h2' : (g.op == 2) = true := by simpa using h2
      try simp only [go_sem, seval, reduceCtorEq, encFs_len, encFs, encF_eq, h2']
      repeat (first | refine WK.blockSeq ?_ | refine WK.blockCond ?_ | refine WK.blockReg ?_ | (refine WK.condT ?_ ?_; (focus (simp only [go_sem, seval, reduceCtorEq, encFs_len, encFs, encF_eq, h2']; done))) | (refine WK.condF ?_ ?_; (focus (simp only [go_sem, seval, reduceCtorEq, encFs_len, encFs, encF_eq, h2']; done))) | refine WK.seq ?_ | ((first | refine WK.reg ?_ | refine WK.skip ?_ | refine WK.ret ?_ | refine WK.exit ?_); simp only [go_sem, seval, reduceCtorEq, encFs_len, encFs, encF_eq, h2']) | ((with_reducible refine And.intro ?_ ?_); omega) | omega)
      refine ⟨by simp [stepR, h', h2], ?_⟩
      refine Cut.by' (by first | exact Nat.le_refl _ | (simp only [Sto.get_add, Sto.get_set, Sto.get_del, Sto.get_none, Sto.next_add, Sto.next_set, Sto.next_del, Sto.next_none]; omega)) (by first | exact Nat.le_refl _ | (simp only [Sto.get_add, Sto.get_set, Sto.get_del, Sto.get_none, Sto.next_add, Sto.next_set, Sto.next_del, Sto.next_none]; omega)) (fun i hi => ?_) (fun i o hi ho => ?_)
      · (try simp only [Sto.get_add, Sto.get_set, Sto.get_del, Sto.get_none, Sto.next_add, Sto.next_set, Sto.next_del, Sto.next_none] at hi ⊢); ((repeat' split) <;> first | exact .inl rfl | exact .inr rfl | omega | (simp_all; done))
      · (try simp only [Sto.get_add, Sto.get_set, Sto.get_del, Sto.get_none, Sto.next_add, Sto.next_set, Sto.next_del, Sto.next_none] at hi ho ⊢); ((repeat' split at ho) <;> (repeat' split) <;> first | (exact ⟨ho, .inl ho⟩) | (cases ho; done) | omega | (cases ho; refine ⟨rfl, .inl rfl⟩) | (cases ho; refine ⟨rfl, .inr ?_⟩; simp only [go_sem, seval, reduceCtorEq, encFs_len]; first | done | omega | (refine ⟨?_, ?_⟩ <;> omega)) | (simp_all; done))
    · have h2' : (g.op == 2) = false := by simpa using h2
      try simp only [go_sem, seval, reduceCtorEq, encFs_len, encFs, encF_eq, h2']
      repeat (first | refine WK.blockSeq ?_ | refine WK.blockCond ?_ | refine WK.blockReg ?_ | (refine WK.condT ?_ ?_; (focus (simp only [go_sem, seval, reduceCtorEq, encFs_len, encFs, encF_eq, h2']; done))) | (refine WK.condF ?_ ?_; (focus (simp only [go_sem, seval, reduceCtorEq, encFs_len, encFs, encF_eq, h2']; done))) | refine WK.seq ?_ | ((first | refine WK.reg ?_ | refine WK.skip ?_ | refine WK.ret ?_ | refine WK.exit ?_); simp only [go_sem, seval, reduceCtorEq, encFs_len, encFs, encF_eq, h2']) | ((with_reducible refine And.intro ?_ ?_); omega) | omega)
      refine ⟨by simp [stepR, h', h2], ?_⟩
      refine Cut.by' (by first | exact Nat.le_refl _ | (simp only [Sto.get_add, Sto.get_set, Sto.get_del, Sto.get_none, Sto.next_add, Sto.next_set, Sto.next_del, Sto.next_none]; omega)) (by first | exact Nat.le_refl _ | (simp only [Sto.get_add, Sto.get_set, Sto.get_del, Sto.get_none, Sto.next_add, Sto.next_set, Sto.next_del, Sto.next_none]; omega)) (fun i hi => ?_) (fun i o hi ho => ?_)
      · (try simp only [Sto.get_add, Sto.get_set, Sto.get_del, Sto.get_none, Sto.next_add, Sto.next_set, Sto.next_del, Sto.next_none] at hi ⊢); ((repeat' split) <;> first | exact .inl rfl | exact .inr rfl | omega | (simp_all; done))
      · (try simp only [Sto.get_add, Sto.get_set, Sto.get_del, Sto.get_none, Sto.next_add, Sto.next_set, Sto.next_del, Sto.next_none] at hi ho ⊢); ((repeat' split at ho) <;> (repeat' split) <;> first | (exact ⟨ho, .inl ho⟩) | (cases ho; done) | omega | (cases ho; refine ⟨rfl, .inl rfl⟩) | (cases ho; refine ⟨rfl, .inr ?_⟩; simp only [go_sem, seval, reduceCtorEq, encFs_len]; first | done | omega | (refine ⟨?_, ?_⟩ <;> omega)) | (simp_all; done))
  · have h' : ¬ o = 8 := by simpa using h
    try simp only [go_sem, seval, reduceCtorEq, encFs_len]
    repeat (first | refine WK.blockSeq ?_ | refine WK.blockCond ?_ | refine WK.blockReg ?_ | (refine WK.condT ?_ ?_; (focus (simp only [go_sem, seval, reduceCtorEq, encFs_len]; done))) | (refine WK.condF ?_ ?_; (focus (simp only [go_sem, seval, reduceCtorEq, encFs_len]; done))) | refine WK.seq ?_ | ((first | refine WK.reg ?_ | refine WK.skip ?_ | refine WK.ret ?_ | refine WK.exit ?_); simp only [go_sem, seval, reduceCtorEq, encFs_len]) | ((with_reducible refine And.intro ?_ ?_); omega) | omega)
    refine WK.rangeI (l.length) [1, 2, 26] [] (fun i => []) (fun i => Sto.none.add (.box [.int .i64 o, .int .i64 v, .list false (encFs l)])) (fun i => ∀ g ∈ l.take i, stepR n g = true) (by simp) (by omega) (by decide) (by simp only [go_sem, seval, reduceCtorEq, encFs_len]) (by simp only [go_sem, seval, reduceCtorEq, encFs_len]) (by simp only [go_sem, seval, reduceCtorEq, encFs_len, List.take_zero]) (by first | rfl | (simp only [go_sem, seval, reduceCtorEq, encFs_len]; done) | (refine Sto.ext' (by simp only [go_sem, seval, reduceCtorEq, encFs_len]) (fun i => ?_); simp only [go_sem, seval, reduceCtorEq, encFs_len]; repeat' split; all_goals (first | rfl | omega | simp_all))) ?_ ?_
    · intro i hi hI
      simp only [go_sem, seval, reduceCtorEq, encFs_len]
      try simp only [go_sem, seval, reduceCtorEq, encFs_len, encFs_get, hi, encF_eq]
      repeat (first | refine WK.blockSeq ?_ | refine WK.blockCond ?_ | refine WK.blockReg ?_ | (refine WK.condT ?_ ?_; (focus (simp only [go_sem, seval, reduceCtorEq, encFs_len, encFs_get, hi, encF_eq]; done))) | (refine WK.condF ?_ ?_; (focus (simp only [go_sem, seval, reduceCtorEq, encFs_len, encFs_get, hi, encF_eq]; done))) | refine WK.seq ?_ | ((first | refine WK.reg ?_ | refine WK.skip ?_ | refine WK.ret ?_ | refine WK.exit ?_); simp only [go_sem, seval, reduceCtorEq, encFs_len, encFs_get, hi, encF_eq]) | ((with_reducible refine And.intro ?_ ?_); omega) | omega)
      refine callK_pureL (ih l[i] (List.getElem_mem hi)) rfl ?_ ?_ ?_ <;> simp only [go_sem, seval, reduceCtorEq, encFs_len, encF_eq]
      try simp only [go_sem, seval, reduceCtorEq, encFs_len]
      repeat (first | refine WK.blockSeq ?_ | refine WK.blockCond ?_ | refine WK.blockReg ?_ | (refine WK.condT ?_ ?_; (focus (simp only [go_sem, seval, reduceCtorEq, encFs_len]; done))) | (refine WK.condF ?_ ?_; (focus (simp only [go_sem, seval, reduceCtorEq, encFs_len]; done))) | refine WK.seq ?_ | ((first | refine WK.reg ?_ | refine WK.skip ?_ | refine WK.ret ?_ | refine WK.exit ?_); simp only [go_sem, seval, reduceCtorEq, encFs_len]) | ((with_reducible refine And.intro ?_ ?_); omega) | omega)
      refine WK.cond _ (by simp only [go_sem, seval, reduceCtorEq, encFs_len]; rfl) (fun h2 => ?_) (fun h2 => ?_)
      · have h2' : stepR n l[i] = false := by simpa using h2
        try simp only [go_sem, seval, reduceCtorEq, encFs_len]
        repeat (first | refine WK.blockSeq ?_ | refine WK.blockCond ?_ | refine WK.blockReg ?_ | (refine WK.condT ?_ ?_; (focus (simp only [go_sem, seval, reduceCtorEq, encFs_len]; done))) | (refine WK.condF ?_ ?_; (focus (simp only [go_sem, seval, reduceCtorEq, encFs_len]; done))) | refine WK.seq ?_ | ((first | refine WK.reg ?_ | refine WK.skip ?_ | refine WK.ret ?_ | refine WK.exit ?_); simp only [go_sem, seval, reduceCtorEq, encFs_len]) | ((with_reducible refine And.intro ?_ ?_); omega) | omega)
        refine ⟨by simp [stepR, h', stepRL_all, all_false hi h2'], ?_⟩
        refine Cut.by' (by first | exact Nat.le_refl _ | (simp only [Sto.get_add, Sto.get_set, Sto.get_del, Sto.get_none, Sto.next_add, Sto.next_set, Sto.next_del, Sto.next_none]; omega)) (by first | exact Nat.le_refl _ | (simp only [Sto.get_add, Sto.get_set, Sto.get_del, Sto.get_none, Sto.next_add, Sto.next_set, Sto.next_del, Sto.next_none]; omega)) (fun i hi => ?_) (fun i o hi ho => ?_)
        · (try simp only [Sto.get_add, Sto.get_set, Sto.get_del, Sto.get_none, Sto.next_add, Sto.next_set, Sto.next_del, Sto.next_none] at hi ⊢); ((repeat' split) <;> first | exact .inl rfl | exact .inr rfl | omega | (simp_all; done))
        · (try simp only [Sto.get_add, Sto.get_set, Sto.get_del, Sto.get_none, Sto.next_add, Sto.next_set, Sto.next_del, Sto.next_none] at hi ho ⊢); ((repeat' split at ho) <;> (repeat' split) <;> first | (exact ⟨ho, .inl ho⟩) | (cases ho; done) | omega | (cases ho; refine ⟨rfl, .inl rfl⟩) | (cases ho; refine ⟨rfl, .inr ?_⟩; simp only [go_sem, seval, reduceCtorEq, encFs_len]; first | done | omega | (refine ⟨?_, ?_⟩ <;> omega)) | (simp_all; done))
      · have h2' : stepR n l[i] = true := by simpa using h2
        try simp only [go_sem, seval, reduceCtorEq, encFs_len]
        repeat (first | refine WK.blockSeq ?_ | refine WK.blockCond ?_ | refine WK.blockReg ?_ | (refine WK.condT ?_ ?_; (focus (simp only [go_sem, seval, reduceCtorEq, encFs_len]; done))) | (refine WK.condF ?_ ?_; (focus (simp only [go_sem, seval, reduceCtorEq, encFs_len]; done))) | refine WK.seq ?_ | ((first | refine WK.reg ?_ | refine WK.skip ?_ | refine WK.ret ?_ | refine WK.exit ?_); simp only [go_sem, seval, reduceCtorEq, encFs_len]) | ((with_reducible refine And.intro ?_ ?_); omega) | omega)
        refine ⟨take_step hi hI h2', ?_⟩
        refine Cut.by' (by first | exact Nat.le_refl _ | (simp only [Sto.get_add, Sto.get_set, Sto.get_del, Sto.get_none, Sto.next_add, Sto.next_set, Sto.next_del, Sto.next_none]; omega)) (by first | exact Nat.le_refl _ | (simp only [Sto.get_add, Sto.get_set, Sto.get_del, Sto.get_none, Sto.next_add, Sto.next_set, Sto.next_del, Sto.next_none]; omega)) (fun i hi => ?_) (fun i o hi ho => ?_)
        · (try simp only [Sto.get_add, Sto.get_set, Sto.get_del, Sto.get_none, Sto.next_add, Sto.next_set, Sto.next_del, Sto.next_none] at hi ⊢); ((repeat' split) <;> first | exact .inl rfl | exact .inr rfl | omega | (simp_all; done))
        · (try simp only [Sto.get_add, Sto.get_set, Sto.get_del, Sto.get_none, Sto.next_add, Sto.next_set, Sto.next_del, Sto.next_none] at hi ho ⊢); ((repeat' split at ho) <;> (repeat' split) <;> first | (exact ⟨ho, .inl ho⟩) | (cases ho; done) | omega | (cases ho; refine ⟨rfl, .inl rfl⟩) | (cases ho; refine ⟨rfl, .inr ?_⟩; simp only [go_sem, seval, reduceCtorEq, encFs_len]; first | done | omega | (refine ⟨?_, ?_⟩ <;> omega)) | (simp_all; done))
    · intro hI
      rw [List.take_length] at hI
      simp only [go_sem, seval, reduceCtorEq, encFs_len]
      try simp only [go_sem, seval, reduceCtorEq, encFs_len]
      repeat (first | refine WK.blockSeq ?_ | refine WK.blockCond ?_ | refine WK.blockReg ?_ | (refine WK.condT ?_ ?_; (focus (simp only [go_sem, seval, reduceCtorEq, encFs_len]; done))) | (refine WK.condF ?_ ?_; (focus (simp only [go_sem, seval, reduceCtorEq, encFs_len]; done))) | refine WK.seq ?_ | ((first | refine WK.reg ?_ | refine WK.skip ?_ | refine WK.ret ?_ | refine WK.exit ?_); simp only [go_sem, seval, reduceCtorEq, encFs_len]) | ((with_reducible refine And.intro ?_ ?_); omega) | omega)
      refine callK_pureL (temporalR_ok (gl := gl) o) rfl ?_ ?_ ?_ <;> simp only [go_sem, seval, reduceCtorEq, encFs_len]
      try simp only [go_sem, seval, reduceCtorEq, encFs_len]
      repeat (first | refine WK.blockSeq ?_ | refine WK.blockCond ?_ | refine WK.blockReg ?_ | (refine WK.condT ?_ ?_; (focus (simp only [go_sem, seval, reduceCtorEq, encFs_len]; done))) | (refine WK.condF ?_ ?_; (focus (simp only [go_sem, seval, reduceCtorEq, encFs_len]; done))) | refine WK.seq ?_ | ((first | refine WK.reg ?_ | refine WK.skip ?_ | refine WK.ret ?_ | refine WK.exit ?_); simp only [go_sem, seval, reduceCtorEq, encFs_len]) | ((with_reducible refine And.intro ?_ ?_); omega) | omega)
      have e : stepRL n l = true := by rw [stepRL_all]; exact List.all_eq_true.2 hI
      refine ⟨by simp [stepR, tempF, e, h'], ?_⟩
      refine Cut.by' (by first | exact Nat.le_refl _ | (simp only [Sto.get_add, Sto.get_set, Sto.get_del, Sto.get_none, Sto.next_add, Sto.next_set, Sto.next_del, Sto.next_none]; omega)) (by first | exact Nat.le_refl _ | (simp only [Sto.get_add, Sto.get_set, Sto.get_del, Sto.get_none, Sto.next_add, Sto.next_set, Sto.next_del, Sto.next_none]; omega)) (fun i hi => ?_) (fun i o hi ho => ?_)
      · (try simp only [Sto.get_add, Sto.get_set, Sto.get_del, Sto.get_none, Sto.next_add, Sto.next_set, Sto.next_del, Sto.next_none] at hi ⊢); ((repeat' split) <;> first | exact .inl rfl | exact .inr rfl | omega | (simp_all; done))
      · (try simp only [Sto.get_add, Sto.get_set, Sto.get_del, Sto.get_none, Sto.next_add, Sto.next_set, Sto.next_del, Sto.next_none] at hi ho ⊢); ((repeat' split at ho) <;> (repeat' split) <;> first | (exact ⟨ho, .inl ho⟩) | (cases ho; done) | omega | (cases ho; refine ⟨rfl, .inl rfl⟩) | (cases ho; refine ⟨rfl, .inr ?_⟩; simp only [go_sem, seval, reduceCtorEq, encFs_len]; first | done | omega | (refine ⟨?_, ?_⟩ <;> omega)) | (simp_all; done))
/-- Where there is Next there is something that it is said of. -/
theorem stepR_ok (n : Int) (f : Fm) : Shrt f → (∀ g ∈ nodesF f, g.op = 8 → 0 < g.args.length) → PCall (C gl) 80 [encF f, .int .i64 n] (.bool (stepR n f)) := by
  induction f using Fm.ind with
  | h o v l ih =>
    intro hs hw
    simp only [Shrt] at hs
    simp only [nodesF, List.mem_cons, forall_eq_or_imp] at hw
    refine stepR_k n o v l hs.1 hw.1 fun g hg => ih g hg (hs.2.mem g hg) fun k hk => hw.2 k ?_
    clear hw ih hs
    induction l with
    | nil => cases hg
    | cons x l ihl =>
      simp only [nodesL, List.mem_append]
      rcases List.mem_cons.1 hg with rfl | hg
      · exact .inl hk
      · exact .inr (ihl hg)

def rngC (c : Ct) : Bool := decide (0 ≤ c.inn) && decide (c.inn ≤ 3) && decide (0 ≤ c.out) && decide (c.out ≤ 3) && decide (c.je.length + c.js.length ≤ 12)
def rvalC (c : Ct) : Bool := rngC c && (validF c.ie c.inn && plainR c.ie) && ((c.is :: (c.je ++ c.js)).all fun f => validF f (c.inn + c.out) && plainR f) &&
  (validF c.se (c.inn + c.out) && validF c.ss (c.inn + c.out) && stepR c.inn c.se && stepR (c.inn + c.out) c.ss)
theorem encFs_app : ∀ (a b : List Fm), encFs a ++ encFs b = encFs (a ++ b)
  | [], b => rfl
  | f :: a, b => by simp only [encFs, List.cons_append, encFs_app a b]
theorem valid_next {f : Fm} {n : Int} (h : validF f n = true) : ∀ g ∈ nodesF f, g.op = 8 → 0 < g.args.length := by
  intro g hg h8
  have := (validF_iff f n).1 h
  have := this.2.2.2 g hg
  simp only [okNode, Bool.and_eq_true, decide_eq_true_eq, h8] at this
  have h1 := this.1.2
  have h2 : arityL.getD (Int.toNat 8) 0 = 1 := rfl
  omega

theorem rvalid_ok (c : Ct) (hs : ShrtC c) : PCall (C gl) 22 [encC c] (.bool (rvalC c)) := by
  refine pcallX (callX_of b22 (by simp [Tryd.ntmps22]) ?_) (by simp only [AllCl, cl_encC, and_true]) (.bool _)
  obtain ⟨sie, sis, sse, sss, sje, sjs, sjel, sjsl⟩ := hs
  have hw : IntKind.i64.wrap ((c.je.length : Int) + (c.js.length : Int)) = (c.je.length : Int) + (c.js.length : Int) := wrap_lt (by omega) (by omega)
  refine W.of ?_
  rw [Tryd.ntmps22]
  simp only [toK, codeOf, Tryd.f22, go_sem, seval, reduceCtorEq]
  refine WK.seq (WK.reg ?_)
  simp only [go_sem, seval, reduceCtorEq, encFs_len, encC]
  refine WK.seq (WK.seq ?_)
  refine WK.joinB [1] [33] [.bool (!rngC c)] (Sto.none.add (.box (ctCells c))) ?_ ?_
  · by_cases h1 : c.inn < 0
    · have e : rngC c = false := by unfold rngC; simp; omega
      try simp only [go_sem, seval, reduceCtorEq, encFs_len, h1, e, decide_true, decide_false, ctCells]
      repeat (first | refine WK.blockSeq ?_ | refine WK.blockCond ?_ | refine WK.blockReg ?_ | (refine WK.condT ?_ ?_; (focus (simp only [go_sem, seval, reduceCtorEq, encFs_len, h1, e, decide_true, decide_false, ctCells]; done))) | (refine WK.condF ?_ ?_; (focus (simp only [go_sem, seval, reduceCtorEq, encFs_len, h1, e, decide_true, decide_false, ctCells]; done))) | refine WK.seq ?_ | ((first | refine WK.reg ?_ | refine WK.skip ?_ | refine WK.ret ?_ | refine WK.exit ?_); simp only [go_sem, seval, reduceCtorEq, encFs_len, h1, e, decide_true, decide_false, ctCells]) | ((with_reducible refine And.intro ?_ ?_); omega) | omega)
    · by_cases h2 : c.inn > 3
      · have e : rngC c = false := by unfold rngC; simp; omega
        try simp only [go_sem, seval, reduceCtorEq, encFs_len, h1, h2, e, decide_true, decide_false, ctCells]
        repeat (first | refine WK.blockSeq ?_ | refine WK.blockCond ?_ | refine WK.blockReg ?_ | (refine WK.condT ?_ ?_; (focus (simp only [go_sem, seval, reduceCtorEq, encFs_len, h1, h2, e, decide_true, decide_false, ctCells]; done))) | (refine WK.condF ?_ ?_; (focus (simp only [go_sem, seval, reduceCtorEq, encFs_len, h1, h2, e, decide_true, decide_false, ctCells]; done))) | refine WK.seq ?_ | ((first | refine WK.reg ?_ | refine WK.skip ?_ | refine WK.ret ?_ | refine WK.exit ?_); simp only [go_sem, seval, reduceCtorEq, encFs_len, h1, h2, e, decide_true, decide_false, ctCells]) | ((with_reducible refine And.intro ?_ ?_); omega) | omega)
      · by_cases h3 : c.out < 0
        · have e : rngC c = false := by unfold rngC; simp; omega
          try simp only [go_sem, seval, reduceCtorEq, encFs_len, h1, h2, h3, e, decide_true, decide_false, ctCells]
          repeat (first | refine WK.blockSeq ?_ | refine WK.blockCond ?_ | refine WK.blockReg ?_ | (refine WK.condT ?_ ?_; (focus (simp only [go_sem, seval, reduceCtorEq, encFs_len, h1, h2, h3, e, decide_true, decide_false, ctCells]; done))) | (refine WK.condF ?_ ?_; (focus (simp only [go_sem, seval, reduceCtorEq, encFs_len, h1, h2, h3, e, decide_true, decide_false, ctCells]; done))) | refine WK.seq ?_ | ((first | refine WK.reg ?_ | refine WK.skip ?_ | refine WK.ret ?_ | refine WK.exit ?_); simp only [go_sem, seval, reduceCtorEq, encFs_len, h1, h2, h3, e, decide_true, decide_false, ctCells]) | ((with_reducible refine And.intro ?_ ?_); omega) | omega)
        · by_cases h4 : c.out > 3
          · have e : rngC c = false := by unfold rngC; simp; omega
            try simp only [go_sem, seval, reduceCtorEq, encFs_len, h1, h2, h3, h4, e, decide_true, decide_false, ctCells]
            repeat (first | refine WK.blockSeq ?_ | refine WK.blockCond ?_ | refine WK.blockReg ?_ | (refine WK.condT ?_ ?_; (focus (simp only [go_sem, seval, reduceCtorEq, encFs_len, h1, h2, h3, h4, e, decide_true, decide_false, ctCells]; done))) | (refine WK.condF ?_ ?_; (focus (simp only [go_sem, seval, reduceCtorEq, encFs_len, h1, h2, h3, h4, e, decide_true, decide_false, ctCells]; done))) | refine WK.seq ?_ | ((first | refine WK.reg ?_ | refine WK.skip ?_ | refine WK.ret ?_ | refine WK.exit ?_); simp only [go_sem, seval, reduceCtorEq, encFs_len, h1, h2, h3, h4, e, decide_true, decide_false, ctCells]) | ((with_reducible refine And.intro ?_ ?_); omega) | omega)
          · by_cases h5 : (c.je.length : Int) + (c.js.length : Int) > 12
            · have e : rngC c = false := by unfold rngC; simp; omega
              try simp only [go_sem, seval, reduceCtorEq, encFs_len, h1, h2, h3, h4, h5, e, hw, decide_true, decide_false, ctCells]
              repeat (first | refine WK.blockSeq ?_ | refine WK.blockCond ?_ | refine WK.blockReg ?_ | (refine WK.condT ?_ ?_; (focus (simp only [go_sem, seval, reduceCtorEq, encFs_len, h1, h2, h3, h4, h5, e, hw, decide_true, decide_false, ctCells]; done))) | (refine WK.condF ?_ ?_; (focus (simp only [go_sem, seval, reduceCtorEq, encFs_len, h1, h2, h3, h4, h5, e, hw, decide_true, decide_false, ctCells]; done))) | refine WK.seq ?_ | ((first | refine WK.reg ?_ | refine WK.skip ?_ | refine WK.ret ?_ | refine WK.exit ?_); simp only [go_sem, seval, reduceCtorEq, encFs_len, h1, h2, h3, h4, h5, e, hw, decide_true, decide_false, ctCells]) | ((with_reducible refine And.intro ?_ ?_); omega) | omega)
            · have e : rngC c = true := by unfold rngC; simp; omega
              try simp only [go_sem, seval, reduceCtorEq, encFs_len, h1, h2, h3, h4, h5, e, hw, decide_true, decide_false, ctCells]
              repeat (first | refine WK.blockSeq ?_ | refine WK.blockCond ?_ | refine WK.blockReg ?_ | (refine WK.condT ?_ ?_; (focus (simp only [go_sem, seval, reduceCtorEq, encFs_len, h1, h2, h3, h4, h5, e, hw, decide_true, decide_false, ctCells]; done))) | (refine WK.condF ?_ ?_; (focus (simp only [go_sem, seval, reduceCtorEq, encFs_len, h1, h2, h3, h4, h5, e, hw, decide_true, decide_false, ctCells]; done))) | refine WK.seq ?_ | ((first | refine WK.reg ?_ | refine WK.skip ?_ | refine WK.ret ?_ | refine WK.exit ?_); simp only [go_sem, seval, reduceCtorEq, encFs_len, h1, h2, h3, h4, h5, e, hw, decide_true, decide_false, ctCells]) | ((with_reducible refine And.intro ?_ ?_); omega) | omega)
  simp only [go_sem, seval, reduceCtorEq, encFs_len]
  cases hr : rngC c with
  | false =>
    try simp only [go_sem, seval, reduceCtorEq, encFs_len, rvalC, hr, Bool.false_and]
    repeat (first | refine WK.blockSeq ?_ | refine WK.blockCond ?_ | refine WK.blockReg ?_ | (refine WK.condT ?_ ?_; (focus (simp only [go_sem, seval, reduceCtorEq, encFs_len, rvalC, hr, Bool.false_and]; done))) | (refine WK.condF ?_ ?_; (focus (simp only [go_sem, seval, reduceCtorEq, encFs_len, rvalC, hr, Bool.false_and]; done))) | refine WK.seq ?_ | ((first | refine WK.reg ?_ | refine WK.skip ?_ | refine WK.ret ?_ | refine WK.exit ?_); simp only [go_sem, seval, reduceCtorEq, encFs_len, rvalC, hr, Bool.false_and]) | ((with_reducible refine And.intro ?_ ?_); omega) | omega)
    refine Cut.by' (by first | exact Nat.le_refl _ | (simp only [Sto.get_add, Sto.get_set, Sto.get_del, Sto.get_none, Sto.next_add, Sto.next_set, Sto.next_del, Sto.next_none]; omega)) (by first | exact Nat.le_refl _ | (simp only [Sto.get_add, Sto.get_set, Sto.get_del, Sto.get_none, Sto.next_add, Sto.next_set, Sto.next_del, Sto.next_none]; omega)) (fun i hi => ?_) (fun i o hi ho => ?_)
    · (try simp only [Sto.get_add, Sto.get_set, Sto.get_del, Sto.get_none, Sto.next_add, Sto.next_set, Sto.next_del, Sto.next_none] at hi ⊢); ((repeat' split) <;> first | exact .inl rfl | exact .inr rfl | omega | (simp_all; done))
    · (try simp only [Sto.get_add, Sto.get_set, Sto.get_del, Sto.get_none, Sto.next_add, Sto.next_set, Sto.next_del, Sto.next_none] at hi ho ⊢); ((repeat' split at ho) <;> (repeat' split) <;> first | (exact ⟨ho, .inl ho⟩) | (cases ho; done) | omega | (cases ho; refine ⟨rfl, .inl rfl⟩) | (cases ho; refine ⟨rfl, .inr ?_⟩; simp only [go_sem, seval, reduceCtorEq, encFs_len]; first | done | omega | (refine ⟨?_, ?_⟩ <;> omega)) | (simp_all; done))
  | true =>
  have hr' := hr
  simp only [rngC, Bool.and_eq_true, decide_eq_true_eq] at hr'
  have hwn : IntKind.i64.wrap (c.inn + c.out) = c.inn + c.out := wrap_lt (by omega) (by omega)
  try simp only [go_sem, seval, reduceCtorEq, encFs_len, hwn, ctCells]
  repeat (first | refine WK.blockSeq ?_ | refine WK.blockCond ?_ | refine WK.blockReg ?_ | (refine WK.condT ?_ ?_; (focus (simp only [go_sem, seval, reduceCtorEq, encFs_len, hwn, ctCells]; done))) | (refine WK.condF ?_ ?_; (focus (simp only [go_sem, seval, reduceCtorEq, encFs_len, hwn, ctCells]; done))) | refine WK.seq ?_ | ((first | refine WK.reg ?_ | refine WK.skip ?_ | refine WK.ret ?_ | refine WK.exit ?_); simp only [go_sem, seval, reduceCtorEq, encFs_len, hwn, ctCells]) | ((with_reducible refine And.intro ?_ ?_); omega) | omega)
  refine callK_pureL (validR_ok (gl := gl) c.ie sie c.inn) rfl ?_ ?_ ?_ <;> simp only [go_sem, seval, reduceCtorEq, encFs_len, hwn, encF_eq]
  cases hv : validF c.ie c.inn with
  | false =>
    try simp only [go_sem, seval, reduceCtorEq, encFs_len, hwn, rvalC, hv, Bool.false_and, Bool.and_false]
    repeat (first | refine WK.blockSeq ?_ | refine WK.blockCond ?_ | refine WK.blockReg ?_ | (refine WK.condT ?_ ?_; (focus (simp only [go_sem, seval, reduceCtorEq, encFs_len, hwn, rvalC, hv, Bool.false_and, Bool.and_false]; done))) | (refine WK.condF ?_ ?_; (focus (simp only [go_sem, seval, reduceCtorEq, encFs_len, hwn, rvalC, hv, Bool.false_and, Bool.and_false]; done))) | refine WK.seq ?_ | ((first | refine WK.reg ?_ | refine WK.skip ?_ | refine WK.ret ?_ | refine WK.exit ?_); simp only [go_sem, seval, reduceCtorEq, encFs_len, hwn, rvalC, hv, Bool.false_and, Bool.and_false]) | ((with_reducible refine And.intro ?_ ?_); omega) | omega)
    refine Cut.by' (by first | exact Nat.le_refl _ | (simp only [Sto.get_add, Sto.get_set, Sto.get_del, Sto.get_none, Sto.next_add, Sto.next_set, Sto.next_del, Sto.next_none]; omega)) (by first | exact Nat.le_refl _ | (simp only [Sto.get_add, Sto.get_set, Sto.get_del, Sto.get_none, Sto.next_add, Sto.next_set, Sto.next_del, Sto.next_none]; omega)) (fun i hi => ?_) (fun i o hi ho => ?_)
    · (try simp only [Sto.get_add, Sto.get_set, Sto.get_del, Sto.get_none, Sto.next_add, Sto.next_set, Sto.next_del, Sto.next_none] at hi ⊢); ((repeat' split) <;> first | exact .inl rfl | exact .inr rfl | omega | (simp_all; done))
    · (try simp only [Sto.get_add, Sto.get_set, Sto.get_del, Sto.get_none, Sto.next_add, Sto.next_set, Sto.next_del, Sto.next_none] at hi ho ⊢); ((repeat' split at ho) <;> (repeat' split) <;> first | (exact ⟨ho, .inl ho⟩) | (cases ho; done) | omega | (cases ho; refine ⟨rfl, .inl rfl⟩) | (cases ho; refine ⟨rfl, .inr ?_⟩; simp only [go_sem, seval, reduceCtorEq, encFs_len, hwn]; first | done | omega | (refine ⟨?_, ?_⟩ <;> omega)) | (simp_all; done))
  | true =>
  try simp only [go_sem, seval, reduceCtorEq, encFs_len, hwn]
  repeat (first | refine WK.blockSeq ?_ | refine WK.blockCond ?_ | refine WK.blockReg ?_ | (refine WK.condT ?_ ?_; (focus (simp only [go_sem, seval, reduceCtorEq, encFs_len, hwn]; done))) | (refine WK.condF ?_ ?_; (focus (simp only [go_sem, seval, reduceCtorEq, encFs_len, hwn]; done))) | refine WK.seq ?_ | ((first | refine WK.reg ?_ | refine WK.skip ?_ | refine WK.ret ?_ | refine WK.exit ?_); simp only [go_sem, seval, reduceCtorEq, encFs_len, hwn]) | ((with_reducible refine And.intro ?_ ?_); omega) | omega)
  refine callK_pureL (plainR_ok (gl := gl) c.ie sie) rfl ?_ ?_ ?_ <;> simp only [go_sem, seval, reduceCtorEq, encFs_len, hwn, encF_eq]
  cases hp : plainR c.ie with
  | false =>
    try simp only [go_sem, seval, reduceCtorEq, encFs_len, hwn, rvalC, hp, Bool.false_and, Bool.and_false]
    repeat (first | refine WK.blockSeq ?_ | refine WK.blockCond ?_ | refine WK.blockReg ?_ | (refine WK.condT ?_ ?_; (focus (simp only [go_sem, seval, reduceCtorEq, encFs_len, hwn, rvalC, hp, Bool.false_and, Bool.and_false]; done))) | (refine WK.condF ?_ ?_; (focus (simp only [go_sem, seval, reduceCtorEq, encFs_len, hwn, rvalC, hp, Bool.false_and, Bool.and_false]; done))) | refine WK.seq ?_ | ((first | refine WK.reg ?_ | refine WK.skip ?_ | refine WK.ret ?_ | refine WK.exit ?_); simp only [go_sem, seval, reduceCtorEq, encFs_len, hwn, rvalC, hp, Bool.false_and, Bool.and_false]) | ((with_reducible refine And.intro ?_ ?_); omega) | omega)
    refine Cut.by' (by first | exact Nat.le_refl _ | (simp only [Sto.get_add, Sto.get_set, Sto.get_del, Sto.get_none, Sto.next_add, Sto.next_set, Sto.next_del, Sto.next_none]; omega)) (by first | exact Nat.le_refl _ | (simp only [Sto.get_add, Sto.get_set, Sto.get_del, Sto.get_none, Sto.next_add, Sto.next_set, Sto.next_del, Sto.next_none]; omega)) (fun i hi => ?_) (fun i o hi ho => ?_)
    · (try simp only [Sto.get_add, Sto.get_set, Sto.get_del, Sto.get_none, Sto.next_add, Sto.next_set, Sto.next_del, Sto.next_none] at hi ⊢); ((repeat' split) <;> first | exact .inl rfl | exact .inr rfl | omega | (simp_all; done))
    · (try simp only [Sto.get_add, Sto.get_set, Sto.get_del, Sto.get_none, Sto.next_add, Sto.next_set, Sto.next_del, Sto.next_none] at hi ho ⊢); ((repeat' split at ho) <;> (repeat' split) <;> first | (exact ⟨ho, .inl ho⟩) | (cases ho; done) | omega | (cases ho; refine ⟨rfl, .inl rfl⟩) | (cases ho; refine ⟨rfl, .inr ?_⟩; simp only [go_sem, seval, reduceCtorEq, encFs_len, hwn]; first | done | omega | (refine ⟨?_, ?_⟩ <;> omega)) | (simp_all; done))
  | true =>
  try simp only [go_sem, seval, reduceCtorEq, encFs_len, hwn, ctCells]
  repeat (first | refine WK.blockSeq ?_ | refine WK.blockCond ?_ | refine WK.blockReg ?_ | (refine WK.condT ?_ ?_; (focus (simp only [go_sem, seval, reduceCtorEq, encFs_len, hwn, ctCells]; done))) | (refine WK.condF ?_ ?_; (focus (simp only [go_sem, seval, reduceCtorEq, encFs_len, hwn, ctCells]; done))) | refine WK.seq ?_ | ((first | refine WK.reg ?_ | refine WK.skip ?_ | refine WK.ret ?_ | refine WK.exit ?_); simp only [go_sem, seval, reduceCtorEq, encFs_len, hwn, ctCells]) | ((with_reducible refine And.intro ?_ ?_); omega) | omega)
  have hL : (AV.agg [.int .i64 c.is.op, .int .i64 c.is.var, .list false (encFs c.is.args)] :: (encFs c.je ++ encFs c.js)) = encFs (c.is :: (c.je ++ c.js)) := by
    rw [encFs, encFs_app, encF_eq]
  have hLl : (c.is :: (c.je ++ c.js)).length ≤ 13 := by simp only [List.length_cons, List.length_append]; omega
  refine WK.draw [⟨false, 0, 0⟩, ⟨false, 0, 0⟩, ⟨false, 0, 0⟩, ⟨false, 0, 0⟩, ⟨false, 0, 0⟩, ⟨true, 0, 0⟩, ⟨false, 0, 0⟩, ⟨false, 1, 0⟩, ⟨true, 0, 0⟩, ⟨false, 0, 0⟩, ⟨false, 0, 0⟩] mixed (by kernel_rfl) ?_
  simp only [go_sem, seval, reduceCtorEq, encFs_len, hwn, hL]
  refine appD_full (f := _) (by simp only [go_sem, seval, reduceCtorEq, encFs_len, hwn, hL]; rfl) (by simp only [go_sem, seval, reduceCtorEq, encFs_len, hwn, hL]; rfl)  ?_ (by simp only [go_sem, seval, reduceCtorEq, encFs_len, hwn, hL]; rfl) (by simp only [go_sem, seval, reduceCtorEq, encFs_len, hwn, hL]) ?_ (by kernel_rfl) (by simp only [go_sem, seval, reduceCtorEq, encFs_len, hwn, hL, List.length_map, List.length_take, List.length_range, List.length_append, List.length_cons, List.length_nil]; omega) (by simp only [go_sem, seval, reduceCtorEq, encFs_len, hwn, hL, List.length_map, List.length_take, List.length_range, List.length_append, List.length_cons, List.length_nil]; omega) ?_
  all_goals (try simp only [go_sem, seval, reduceCtorEq, encFs_len, hwn, hL])
  all_goals (try (refine okes_map fun _ => ?_; simp only [go_sem, seval, reduceCtorEq, encFs_len, hwn, hL]; done))
  refine appD_own (f := _) (by simp only [go_sem, seval, reduceCtorEq, encFs_len, hwn, hL]; rfl) (by simp only [go_sem, seval, reduceCtorEq, encFs_len, hwn, hL]; rfl) (by simp only [go_sem, seval, reduceCtorEq, encFs_len, hwn, hL]; rfl) (by simp only [go_sem, seval, reduceCtorEq, encFs_len, hwn, hL]) (by simp only [go_sem, seval, reduceCtorEq, encFs_len, hwn, hL, List.length_map, List.length_take, List.length_range, List.length_append, List.length_cons, List.length_nil]; first | done | omega) ?_ (by simp only [go_sem, seval, reduceCtorEq, encFs_len, hwn, hL]; rfl) (by simp only [go_sem, seval, reduceCtorEq, encFs_len, hwn, hL]) ?_ (by kernel_rfl) (by simp only [go_sem, seval, reduceCtorEq, encFs_len, hwn, hL, List.length_map, List.length_take, List.length_range, List.length_append, List.length_cons, List.length_nil]; omega) (by simp only [go_sem, seval, reduceCtorEq, encFs_len, hwn, hL, List.length_map, List.length_take, List.length_range, List.length_append, List.length_cons, List.length_nil]; omega) ?_
  all_goals (try simp only [go_sem, seval, reduceCtorEq, encFs_len, hwn, hL])
  all_goals (try (refine okes_map fun _ => ?_; simp only [go_sem, seval, reduceCtorEq, encFs_len, hwn, hL]; done))
  have sL : ∀ f ∈ c.is :: (c.je ++ c.js), Shrt f := by
    intro f hf
    rcases List.mem_cons.1 hf with rfl | hf
    · exact sis
    · rcases List.mem_append.1 hf with hf | hf
      · exact sje.mem f hf
      · exact sjs.mem f hf
  have hA : (c.je ++ c.js).length + 1 = (c.is :: (c.je ++ c.js)).length := by simp only [List.length_cons]
  have hB : 1 + (c.je.length + c.js.length) = (c.is :: (c.je ++ c.js)).length := by simp only [List.length_cons, List.length_append]; omega
  generalize hLd : c.is :: (c.je ++ c.js) = L at *
  refine WK.rangeI (L.length) [1, 3, 59] [] (fun i => []) (fun i => (Sto.none.add (.box (ctCells c))).add (.tok 3 L.length)) (fun i => ∀ f ∈ L.take i, (validF f (c.inn + c.out) && plainR f) = true) (by simp) (by omega) (by decide) (by simp only [go_sem, seval, reduceCtorEq, encFs_len, hwn, hL, hA, hB]) (by simp only [go_sem, seval, reduceCtorEq, encFs_len, hwn, hL, hA, hB]) (by simp only [go_sem, seval, reduceCtorEq, encFs_len, hwn, hL, hA, hB, List.take_zero]) (by first | rfl | (simp only [go_sem, seval, reduceCtorEq, encFs_len, hwn, hL, hA, hB]; done) | (refine Sto.ext' (by simp only [go_sem, seval, reduceCtorEq, encFs_len, hwn, hL, hA, hB]) (fun i => ?_); simp only [go_sem, seval, reduceCtorEq, encFs_len, hwn, hL, hA, hB]; repeat' split; all_goals (first | rfl | omega | simp_all))) ?_ ?_
  · intro i hi hI
    simp only [go_sem, seval, reduceCtorEq, encFs_len, hwn, hL, hA, hB, ctCells]
    try simp only [go_sem, seval, reduceCtorEq, encFs_len, hwn, hL, hA, hB, encFs_get, hi, encF_eq]
    repeat (first | refine WK.blockSeq ?_ | refine WK.blockCond ?_ | refine WK.blockReg ?_ | (refine WK.condT ?_ ?_; (focus (simp only [go_sem, seval, reduceCtorEq, encFs_len, hwn, hL, hA, hB, encFs_get, hi, encF_eq]; done))) | (refine WK.condF ?_ ?_; (focus (simp only [go_sem, seval, reduceCtorEq, encFs_len, hwn, hL, hA, hB, encFs_get, hi, encF_eq]; done))) | refine WK.seq ?_ | ((first | refine WK.reg ?_ | refine WK.skip ?_ | refine WK.ret ?_ | refine WK.exit ?_); simp only [go_sem, seval, reduceCtorEq, encFs_len, hwn, hL, hA, hB, encFs_get, hi, encF_eq]) | ((with_reducible refine And.intro ?_ ?_); omega) | omega)
    refine callK_pureL (validR_ok (gl := gl) L[i] (sL _ (List.getElem_mem hi)) (c.inn + c.out)) rfl ?_ ?_ ?_ <;> simp only [go_sem, seval, reduceCtorEq, encFs_len, hwn, hL, hA, hB, encF_eq]
    cases hv2 : validF L[i] (c.inn + c.out) with
    | false =>
      try simp only [go_sem, seval, reduceCtorEq, encFs_len, hwn, hL, hA, hB]
      repeat (first | refine WK.blockSeq ?_ | refine WK.blockCond ?_ | refine WK.blockReg ?_ | (refine WK.condT ?_ ?_; (focus (simp only [go_sem, seval, reduceCtorEq, encFs_len, hwn, hL, hA, hB]; done))) | (refine WK.condF ?_ ?_; (focus (simp only [go_sem, seval, reduceCtorEq, encFs_len, hwn, hL, hA, hB]; done))) | refine WK.seq ?_ | ((first | refine WK.reg ?_ | refine WK.skip ?_ | refine WK.ret ?_ | refine WK.exit ?_); simp only [go_sem, seval, reduceCtorEq, encFs_len, hwn, hL, hA, hB]) | ((with_reducible refine And.intro ?_ ?_); omega) | omega)
      have e : (L.all fun f => validF f (c.inn + c.out) && plainR f) = false := all_false hi (by simp [hv2])
      refine ⟨by simp [rvalC, hLd, e], ?_⟩
      refine Cut.by' (by first | exact Nat.le_refl _ | (simp only [Sto.get_add, Sto.get_set, Sto.get_del, Sto.get_none, Sto.next_add, Sto.next_set, Sto.next_del, Sto.next_none]; omega)) (by first | exact Nat.le_refl _ | (simp only [Sto.get_add, Sto.get_set, Sto.get_del, Sto.get_none, Sto.next_add, Sto.next_set, Sto.next_del, Sto.next_none]; omega)) (fun i hi => ?_) (fun i o hi ho => ?_)
      · (try simp only [Sto.get_add, Sto.get_set, Sto.get_del, Sto.get_none, Sto.next_add, Sto.next_set, Sto.next_del, Sto.next_none] at hi ⊢); ((repeat' split) <;> first | exact .inl rfl | exact .inr rfl | omega | (simp_all; done))
      · (try simp only [Sto.get_add, Sto.get_set, Sto.get_del, Sto.get_none, Sto.next_add, Sto.next_set, Sto.next_del, Sto.next_none] at hi ho ⊢); ((repeat' split at ho) <;> (repeat' split) <;> first | (exact ⟨ho, .inl ho⟩) | (cases ho; done) | omega | (cases ho; refine ⟨rfl, .inl rfl⟩) | (cases ho; refine ⟨rfl, .inr ?_⟩; simp only [go_sem, seval, reduceCtorEq, encFs_len, hwn, hL, hA, hB]; first | done | omega | (refine ⟨?_, ?_⟩ <;> omega)) | (simp_all; done))
    | true =>
      try simp only [go_sem, seval, reduceCtorEq, encFs_len, hwn, hL, hA, hB, encF_eq]
      repeat (first | refine WK.blockSeq ?_ | refine WK.blockCond ?_ | refine WK.blockReg ?_ | (refine WK.condT ?_ ?_; (focus (simp only [go_sem, seval, reduceCtorEq, encFs_len, hwn, hL, hA, hB, encF_eq]; done))) | (refine WK.condF ?_ ?_; (focus (simp only [go_sem, seval, reduceCtorEq, encFs_len, hwn, hL, hA, hB, encF_eq]; done))) | refine WK.seq ?_ | ((first | refine WK.reg ?_ | refine WK.skip ?_ | refine WK.ret ?_ | refine WK.exit ?_); simp only [go_sem, seval, reduceCtorEq, encFs_len, hwn, hL, hA, hB, encF_eq]) | ((with_reducible refine And.intro ?_ ?_); omega) | omega)
      refine callK_pureL (plainR_ok (gl := gl) L[i] (sL _ (List.getElem_mem hi))) rfl ?_ ?_ ?_ <;> simp only [go_sem, seval, reduceCtorEq, encFs_len, hwn, hL, hA, hB, encF_eq]
      cases hp2 : plainR L[i] with
      | false =>
        try simp only [go_sem, seval, reduceCtorEq, encFs_len, hwn, hL, hA, hB]
        repeat (first | refine WK.blockSeq ?_ | refine WK.blockCond ?_ | refine WK.blockReg ?_ | (refine WK.condT ?_ ?_; (focus (simp only [go_sem, seval, reduceCtorEq, encFs_len, hwn, hL, hA, hB]; done))) | (refine WK.condF ?_ ?_; (focus (simp only [go_sem, seval, reduceCtorEq, encFs_len, hwn, hL, hA, hB]; done))) | refine WK.seq ?_ | ((first | refine WK.reg ?_ | refine WK.skip ?_ | refine WK.ret ?_ | refine WK.exit ?_); simp only [go_sem, seval, reduceCtorEq, encFs_len, hwn, hL, hA, hB]) | ((with_reducible refine And.intro ?_ ?_); omega) | omega)
        have e : (L.all fun f => validF f (c.inn + c.out) && plainR f) = false := all_false hi (by simp [hp2])
        refine ⟨by simp [rvalC, hLd, e], ?_⟩
        refine Cut.by' (by first | exact Nat.le_refl _ | (simp only [Sto.get_add, Sto.get_set, Sto.get_del, Sto.get_none, Sto.next_add, Sto.next_set, Sto.next_del, Sto.next_none]; omega)) (by first | exact Nat.le_refl _ | (simp only [Sto.get_add, Sto.get_set, Sto.get_del, Sto.get_none, Sto.next_add, Sto.next_set, Sto.next_del, Sto.next_none]; omega)) (fun i hi => ?_) (fun i o hi ho => ?_)
        · (try simp only [Sto.get_add, Sto.get_set, Sto.get_del, Sto.get_none, Sto.next_add, Sto.next_set, Sto.next_del, Sto.next_none] at hi ⊢); ((repeat' split) <;> first | exact .inl rfl | exact .inr rfl | omega | (simp_all; done))
        · (try simp only [Sto.get_add, Sto.get_set, Sto.get_del, Sto.get_none, Sto.next_add, Sto.next_set, Sto.next_del, Sto.next_none] at hi ho ⊢); ((repeat' split at ho) <;> (repeat' split) <;> first | (exact ⟨ho, .inl ho⟩) | (cases ho; done) | omega | (cases ho; refine ⟨rfl, .inl rfl⟩) | (cases ho; refine ⟨rfl, .inr ?_⟩; simp only [go_sem, seval, reduceCtorEq, encFs_len, hwn, hL, hA, hB]; first | done | omega | (refine ⟨?_, ?_⟩ <;> omega)) | (simp_all; done))
      | true =>
        try simp only [go_sem, seval, reduceCtorEq, encFs_len, hwn, hL, hA, hB, ctCells]
        repeat (first | refine WK.blockSeq ?_ | refine WK.blockCond ?_ | refine WK.blockReg ?_ | (refine WK.condT ?_ ?_; (focus (simp only [go_sem, seval, reduceCtorEq, encFs_len, hwn, hL, hA, hB, ctCells]; done))) | (refine WK.condF ?_ ?_; (focus (simp only [go_sem, seval, reduceCtorEq, encFs_len, hwn, hL, hA, hB, ctCells]; done))) | refine WK.seq ?_ | ((first | refine WK.reg ?_ | refine WK.skip ?_ | refine WK.ret ?_ | refine WK.exit ?_); simp only [go_sem, seval, reduceCtorEq, encFs_len, hwn, hL, hA, hB, ctCells]) | ((with_reducible refine And.intro ?_ ?_); omega) | omega)
        refine ⟨take_step hi hI (by simp [hv2, hp2]), ?_⟩
        refine Cut.by' (by first | exact Nat.le_refl _ | (simp only [Sto.get_add, Sto.get_set, Sto.get_del, Sto.get_none, Sto.next_add, Sto.next_set, Sto.next_del, Sto.next_none]; omega)) (by first | exact Nat.le_refl _ | (simp only [Sto.get_add, Sto.get_set, Sto.get_del, Sto.get_none, Sto.next_add, Sto.next_set, Sto.next_del, Sto.next_none]; omega)) (fun i hi => ?_) (fun i o hi ho => ?_)
        · (try simp only [Sto.get_add, Sto.get_set, Sto.get_del, Sto.get_none, Sto.next_add, Sto.next_set, Sto.next_del, Sto.next_none] at hi ⊢); ((repeat' split) <;> first | exact .inl rfl | exact .inr rfl | omega | (simp_all; done))
        · (try simp only [Sto.get_add, Sto.get_set, Sto.get_del, Sto.get_none, Sto.next_add, Sto.next_set, Sto.next_del, Sto.next_none] at hi ho ⊢); ((repeat' split at ho) <;> (repeat' split) <;> first | (exact ⟨ho, .inl ho⟩) | (cases ho; done) | omega | (cases ho; refine ⟨rfl, .inl rfl⟩) | (cases ho; refine ⟨rfl, .inr ?_⟩; simp only [go_sem, seval, reduceCtorEq, encFs_len, hwn, hL, hA, hB]; first | done | omega | (refine ⟨?_, ?_⟩ <;> omega)) | (simp_all; done))
  · intro hI
    rw [List.take_length] at hI
    have e : (L.all fun f => validF f (c.inn + c.out) && plainR f) = true := List.all_eq_true.2 hI
    simp only [go_sem, seval, reduceCtorEq, encFs_len, hwn, hL, hA, hB, ctCells]
    try simp only [go_sem, seval, reduceCtorEq, encFs_len, hwn, hL, hA, hB, encF_eq]
    repeat (first | refine WK.blockSeq ?_ | refine WK.blockCond ?_ | refine WK.blockReg ?_ | (refine WK.condT ?_ ?_; (focus (simp only [go_sem, seval, reduceCtorEq, encFs_len, hwn, hL, hA, hB, encF_eq]; done))) | (refine WK.condF ?_ ?_; (focus (simp only [go_sem, seval, reduceCtorEq, encFs_len, hwn, hL, hA, hB, encF_eq]; done))) | refine WK.seq ?_ | ((first | refine WK.reg ?_ | refine WK.skip ?_ | refine WK.ret ?_ | refine WK.exit ?_); simp only [go_sem, seval, reduceCtorEq, encFs_len, hwn, hL, hA, hB, encF_eq]) | ((with_reducible refine And.intro ?_ ?_); omega) | omega)
    refine callK_pureL (validR_ok (gl := gl) c.se sse (c.inn + c.out)) rfl ?_ ?_ ?_ <;> simp only [go_sem, seval, reduceCtorEq, encFs_len, hwn, hL, hA, hB, encF_eq]
    cases h1 : validF c.se (c.inn + c.out) with
    | false =>
      try simp only [go_sem, seval, reduceCtorEq, encFs_len, hwn, hL, hA, hB, rvalC, h1, Bool.false_and, Bool.and_false]
      repeat (first | refine WK.blockSeq ?_ | refine WK.blockCond ?_ | refine WK.blockReg ?_ | (refine WK.condT ?_ ?_; (focus (simp only [go_sem, seval, reduceCtorEq, encFs_len, hwn, hL, hA, hB, rvalC, h1, Bool.false_and, Bool.and_false]; done))) | (refine WK.condF ?_ ?_; (focus (simp only [go_sem, seval, reduceCtorEq, encFs_len, hwn, hL, hA, hB, rvalC, h1, Bool.false_and, Bool.and_false]; done))) | refine WK.seq ?_ | ((first | refine WK.reg ?_ | refine WK.skip ?_ | refine WK.ret ?_ | refine WK.exit ?_); simp only [go_sem, seval, reduceCtorEq, encFs_len, hwn, hL, hA, hB, rvalC, h1, Bool.false_and, Bool.and_false]) | ((with_reducible refine And.intro ?_ ?_); omega) | omega)
      refine Cut.by' (by first | exact Nat.le_refl _ | (simp only [Sto.get_add, Sto.get_set, Sto.get_del, Sto.get_none, Sto.next_add, Sto.next_set, Sto.next_del, Sto.next_none]; omega)) (by first | exact Nat.le_refl _ | (simp only [Sto.get_add, Sto.get_set, Sto.get_del, Sto.get_none, Sto.next_add, Sto.next_set, Sto.next_del, Sto.next_none]; omega)) (fun i hi => ?_) (fun i o hi ho => ?_)
      · (try simp only [Sto.get_add, Sto.get_set, Sto.get_del, Sto.get_none, Sto.next_add, Sto.next_set, Sto.next_del, Sto.next_none] at hi ⊢); ((repeat' split) <;> first | exact .inl rfl | exact .inr rfl | omega | (simp_all; done))
      · (try simp only [Sto.get_add, Sto.get_set, Sto.get_del, Sto.get_none, Sto.next_add, Sto.next_set, Sto.next_del, Sto.next_none] at hi ho ⊢); ((repeat' split at ho) <;> (repeat' split) <;> first | (exact ⟨ho, .inl ho⟩) | (cases ho; done) | omega | (cases ho; refine ⟨rfl, .inl rfl⟩) | (cases ho; refine ⟨rfl, .inr ?_⟩; simp only [go_sem, seval, reduceCtorEq, encFs_len, hwn, hL, hA, hB]; first | done | omega | (refine ⟨?_, ?_⟩ <;> omega)) | (simp_all; done))
    | true =>
    try simp only [go_sem, seval, reduceCtorEq, encFs_len, hwn, hL, hA, hB, encF_eq]
    repeat (first | refine WK.blockSeq ?_ | refine WK.blockCond ?_ | refine WK.blockReg ?_ | (refine WK.condT ?_ ?_; (focus (simp only [go_sem, seval, reduceCtorEq, encFs_len, hwn, hL, hA, hB, encF_eq]; done))) | (refine WK.condF ?_ ?_; (focus (simp only [go_sem, seval, reduceCtorEq, encFs_len, hwn, hL, hA, hB, encF_eq]; done))) | refine WK.seq ?_ | ((first | refine WK.reg ?_ | refine WK.skip ?_ | refine WK.ret ?_ | refine WK.exit ?_); simp only [go_sem, seval, reduceCtorEq, encFs_len, hwn, hL, hA, hB, encF_eq]) | ((with_reducible refine And.intro ?_ ?_); omega) | omega)
    refine callK_pureL (validR_ok (gl := gl) c.ss sss (c.inn + c.out)) rfl ?_ ?_ ?_ <;> simp only [go_sem, seval, reduceCtorEq, encFs_len, hwn, hL, hA, hB, encF_eq]
    cases h2 : validF c.ss (c.inn + c.out) with
    | false =>
      try simp only [go_sem, seval, reduceCtorEq, encFs_len, hwn, hL, hA, hB, rvalC, h2, Bool.false_and, Bool.and_false]
      repeat (first | refine WK.blockSeq ?_ | refine WK.blockCond ?_ | refine WK.blockReg ?_ | (refine WK.condT ?_ ?_; (focus (simp only [go_sem, seval, reduceCtorEq, encFs_len, hwn, hL, hA, hB, rvalC, h2, Bool.false_and, Bool.and_false]; done))) | (refine WK.condF ?_ ?_; (focus (simp only [go_sem, seval, reduceCtorEq, encFs_len, hwn, hL, hA, hB, rvalC, h2, Bool.false_and, Bool.and_false]; done))) | refine WK.seq ?_ | ((first | refine WK.reg ?_ | refine WK.skip ?_ | refine WK.ret ?_ | refine WK.exit ?_); simp only [go_sem, seval, reduceCtorEq, encFs_len, hwn, hL, hA, hB, rvalC, h2, Bool.false_and, Bool.and_false]) | ((with_reducible refine And.intro ?_ ?_); omega) | omega)
      refine Cut.by' (by first | exact Nat.le_refl _ | (simp only [Sto.get_add, Sto.get_set, Sto.get_del, Sto.get_none, Sto.next_add, Sto.next_set, Sto.next_del, Sto.next_none]; omega)) (by first | exact Nat.le_refl _ | (simp only [Sto.get_add, Sto.get_set, Sto.get_del, Sto.get_none, Sto.next_add, Sto.next_set, Sto.next_del, Sto.next_none]; omega)) (fun i hi => ?_) (fun i o hi ho => ?_)
      · (try simp only [Sto.get_add, Sto.get_set, Sto.get_del, Sto.get_none, Sto.next_add, Sto.next_set, Sto.next_del, Sto.next_none] at hi ⊢); ((repeat' split) <;> first | exact .inl rfl | exact .inr rfl | omega | (simp_all; done))
      · (try simp only [Sto.get_add, Sto.get_set, Sto.get_del, Sto.get_none, Sto.next_add, Sto.next_set, Sto.next_del, Sto.next_none] at hi ho ⊢); ((repeat' split at ho) <;> (repeat' split) <;> first | (exact ⟨ho, .inl ho⟩) | (cases ho; done) | omega | (cases ho; refine ⟨rfl, .inl rfl⟩) | (cases ho; refine ⟨rfl, .inr ?_⟩; simp only [go_sem, seval, reduceCtorEq, encFs_len, hwn, hL, hA, hB]; first | done | omega | (refine ⟨?_, ?_⟩ <;> omega)) | (simp_all; done))
    | true =>
    try simp only [go_sem, seval, reduceCtorEq, encFs_len, hwn, hL, hA, hB, encF_eq]
    repeat (first | refine WK.blockSeq ?_ | refine WK.blockCond ?_ | refine WK.blockReg ?_ | (refine WK.condT ?_ ?_; (focus (simp only [go_sem, seval, reduceCtorEq, encFs_len, hwn, hL, hA, hB, encF_eq]; done))) | (refine WK.condF ?_ ?_; (focus (simp only [go_sem, seval, reduceCtorEq, encFs_len, hwn, hL, hA, hB, encF_eq]; done))) | refine WK.seq ?_ | ((first | refine WK.reg ?_ | refine WK.skip ?_ | refine WK.ret ?_ | refine WK.exit ?_); simp only [go_sem, seval, reduceCtorEq, encFs_len, hwn, hL, hA, hB, encF_eq]) | ((with_reducible refine And.intro ?_ ?_); omega) | omega)
    refine callK_pureL (stepR_ok (gl := gl) c.inn c.se sse (valid_next h1)) rfl ?_ ?_ ?_ <;> simp only [go_sem, seval, reduceCtorEq, encFs_len, hwn, hL, hA, hB, encF_eq]
    cases h3 : stepR c.inn c.se with
    | false =>
      try simp only [go_sem, seval, reduceCtorEq, encFs_len, hwn, hL, hA, hB, rvalC, h3, Bool.false_and, Bool.and_false]
      repeat (first | refine WK.blockSeq ?_ | refine WK.blockCond ?_ | refine WK.blockReg ?_ | (refine WK.condT ?_ ?_; (focus (simp only [go_sem, seval, reduceCtorEq, encFs_len, hwn, hL, hA, hB, rvalC, h3, Bool.false_and, Bool.and_false]; done))) | (refine WK.condF ?_ ?_; (focus (simp only [go_sem, seval, reduceCtorEq, encFs_len, hwn, hL, hA, hB, rvalC, h3, Bool.false_and, Bool.and_false]; done))) | refine WK.seq ?_ | ((first | refine WK.reg ?_ | refine WK.skip ?_ | refine WK.ret ?_ | refine WK.exit ?_); simp only [go_sem, seval, reduceCtorEq, encFs_len, hwn, hL, hA, hB, rvalC, h3, Bool.false_and, Bool.and_false]) | ((with_reducible refine And.intro ?_ ?_); omega) | omega)
      refine Cut.by' (by first | exact Nat.le_refl _ | (simp only [Sto.get_add, Sto.get_set, Sto.get_del, Sto.get_none, Sto.next_add, Sto.next_set, Sto.next_del, Sto.next_none]; omega)) (by first | exact Nat.le_refl _ | (simp only [Sto.get_add, Sto.get_set, Sto.get_del, Sto.get_none, Sto.next_add, Sto.next_set, Sto.next_del, Sto.next_none]; omega)) (fun i hi => ?_) (fun i o hi ho => ?_)
      · (try simp only [Sto.get_add, Sto.get_set, Sto.get_del, Sto.get_none, Sto.next_add, Sto.next_set, Sto.next_del, Sto.next_none] at hi ⊢); ((repeat' split) <;> first | exact .inl rfl | exact .inr rfl | omega | (simp_all; done))
      · (try simp only [Sto.get_add, Sto.get_set, Sto.get_del, Sto.get_none, Sto.next_add, Sto.next_set, Sto.next_del, Sto.next_none] at hi ho ⊢); ((repeat' split at ho) <;> (repeat' split) <;> first | (exact ⟨ho, .inl ho⟩) | (cases ho; done) | omega | (cases ho; refine ⟨rfl, .inl rfl⟩) | (cases ho; refine ⟨rfl, .inr ?_⟩; simp only [go_sem, seval, reduceCtorEq, encFs_len, hwn, hL, hA, hB]; first | done | omega | (refine ⟨?_, ?_⟩ <;> omega)) | (simp_all; done))
    | true =>
    try simp only [go_sem, seval, reduceCtorEq, encFs_len, hwn, hL, hA, hB, encF_eq]
    repeat (first | refine WK.blockSeq ?_ | refine WK.blockCond ?_ | refine WK.blockReg ?_ | (refine WK.condT ?_ ?_; (focus (simp only [go_sem, seval, reduceCtorEq, encFs_len, hwn, hL, hA, hB, encF_eq]; done))) | (refine WK.condF ?_ ?_; (focus (simp only [go_sem, seval, reduceCtorEq, encFs_len, hwn, hL, hA, hB, encF_eq]; done))) | refine WK.seq ?_ | ((first | refine WK.reg ?_ | refine WK.skip ?_ | refine WK.ret ?_ | refine WK.exit ?_); simp only [go_sem, seval, reduceCtorEq, encFs_len, hwn, hL, hA, hB, encF_eq]) | ((with_reducible refine And.intro ?_ ?_); omega) | omega)
    refine callK_pureL (stepR_ok (gl := gl) (c.inn + c.out) c.ss sss (valid_next h2)) rfl ?_ ?_ ?_ <;> simp only [go_sem, seval, reduceCtorEq, encFs_len, hwn, hL, hA, hB, encF_eq]
    try simp only [go_sem, seval, reduceCtorEq, encFs_len, hwn, hL, hA, hB, rvalC, hr, hv, hp, hLd, e, h1, h2, h3, Bool.true_and]
    repeat (first | refine WK.blockSeq ?_ | refine WK.blockCond ?_ | refine WK.blockReg ?_ | (refine WK.condT ?_ ?_; (focus (simp only [go_sem, seval, reduceCtorEq, encFs_len, hwn, hL, hA, hB, rvalC, hr, hv, hp, hLd, e, h1, h2, h3, Bool.true_and]; done))) | (refine WK.condF ?_ ?_; (focus (simp only [go_sem, seval, reduceCtorEq, encFs_len, hwn, hL, hA, hB, rvalC, hr, hv, hp, hLd, e, h1, h2, h3, Bool.true_and]; done))) | refine WK.seq ?_ | ((first | refine WK.reg ?_ | refine WK.skip ?_ | refine WK.ret ?_ | refine WK.exit ?_); simp only [go_sem, seval, reduceCtorEq, encFs_len, hwn, hL, hA, hB, rvalC, hr, hv, hp, hLd, e, h1, h2, h3, Bool.true_and]) | ((with_reducible refine And.intro ?_ ?_); omega) | omega)
    refine Cut.by' (by first | exact Nat.le_refl _ | (simp only [Sto.get_add, Sto.get_set, Sto.get_del, Sto.get_none, Sto.next_add, Sto.next_set, Sto.next_del, Sto.next_none]; omega)) (by first | exact Nat.le_refl _ | (simp only [Sto.get_add, Sto.get_set, Sto.get_del, Sto.get_none, Sto.next_add, Sto.next_set, Sto.next_del, Sto.next_none]; omega)) (fun i hi => ?_) (fun i o hi ho => ?_)
    · (try simp only [Sto.get_add, Sto.get_set, Sto.get_del, Sto.get_none, Sto.next_add, Sto.next_set, Sto.next_del, Sto.next_none] at hi ⊢); ((repeat' split) <;> first | exact .inl rfl | exact .inr rfl | omega | (simp_all; done))
    · (try simp only [Sto.get_add, Sto.get_set, Sto.get_del, Sto.get_none, Sto.next_add, Sto.next_set, Sto.next_del, Sto.next_none] at hi ho ⊢); ((repeat' split at ho) <;> (repeat' split) <;> first | (exact ⟨ho, .inl ho⟩) | (cases ho; done) | omega | (cases ho; refine ⟨rfl, .inl rfl⟩) | (cases ho; refine ⟨rfl, .inr ?_⟩; simp only [go_sem, seval, reduceCtorEq, encFs_len, hwn, hL, hA, hB]; first | done | omega | (refine ⟨?_, ?_⟩ <;> omega)) | (simp_all; done))
end
end Go.Sx
