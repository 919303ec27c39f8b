import Derived.Test.YtndchmmclfidgaaDoorTkJ
set_option maxRecDepth 100000
set_option linter.unusedSimpArgs false
set_option linter.unusedVariables false
set_option linter.unnecessarySimpa false
namespace Go.Sx
open Go Go.Lg Go.Proofs
theorem b10 {gl : GL} : Body (C gl).P 10 Tryd.f10 (codeOf Tryd.f10) := ⟨Tryd.func10, by kernel_rfl, by kernel_rfl⟩

/-! ## The walk of LtlPlain -/
theorem plWL_all : ∀ l : List Fm, plWL l = l.all plW
  | [] => rfl
  | f :: l => by rw [plWL, plWL_all l]; rfl
theorem plW_mk (o v : Int) (l : List Fm) : plW (.mk o v l) = (plainW o l && plWL l) := (rfl)
section
variable {gl : GL}
theorem plain_k (o v : Int) (l : List Fm) (hlen : l.length < 1000000) (ih : ∀ g ∈ l, PCall (C gl) 44 [encF g] (.bool (plW g))) : PCall (C gl) 44 [encF (.mk o v l)] (.bool (plW (.mk o v l))) := by
  refine pcallX (callX_of b44 (by simp [Tryd.ntmps44]) ?_) (by simp only [AllCl, cl_encF, and_true]) (.bool _)
  refine W.of ?_
  rw [Tryd.ntmps44]
  simp only [toK, codeOf, Tryd.f44, go_sem, seval, reduceCtorEq]
  have fin : plainW o l = false → plW (.mk o v l) = false := fun h => by rw [plW_mk, h]; rfl
  cases h6 : (o == 6) with
  | true =>
    rw [fin (by simp only [plainW, h6, Bool.true_or, Bool.not_true])]
    try simp only [go_sem, seval, reduceCtorEq, encFs_len, encF, h6]
    repeat (first | refine WK.blockSeq ?_ | refine WK.blockCond ?_ | refine WK.blockReg ?_ | (refine WK.condT ?_ ?_; (focus (simp only [go_sem, seval, reduceCtorEq, encFs_len, encF, h6]; done))) | (refine WK.condF ?_ ?_; (focus (simp only [go_sem, seval, reduceCtorEq, encFs_len, encF, h6]; done))) | refine WK.seq ?_ | ((first | refine WK.reg ?_ | refine WK.skip ?_ | refine WK.ret ?_ | refine WK.exit ?_); simp only [go_sem, seval, reduceCtorEq, encFs_len, encF, h6]) | ((with_reducible refine And.intro ?_ ?_); omega) | omega)
    exact cut_none _
  | false =>
  cases h7 : (o == 7) with
  | true =>
    rw [fin (by simp only [plainW, h6, h7, Bool.true_or, Bool.false_or, Bool.not_true])]
    try simp only [go_sem, seval, reduceCtorEq, encFs_len, encF, h6, h7]
    repeat (first | refine WK.blockSeq ?_ | refine WK.blockCond ?_ | refine WK.blockReg ?_ | (refine WK.condT ?_ ?_; (focus (simp only [go_sem, seval, reduceCtorEq, encFs_len, encF, h6, h7]; done))) | (refine WK.condF ?_ ?_; (focus (simp only [go_sem, seval, reduceCtorEq, encFs_len, encF, h6, h7]; done))) | refine WK.seq ?_ | ((first | refine WK.reg ?_ | refine WK.skip ?_ | refine WK.ret ?_ | refine WK.exit ?_); simp only [go_sem, seval, reduceCtorEq, encFs_len, encF, h6, h7]) | ((with_reducible refine And.intro ?_ ?_); omega) | omega)
    exact cut_none _
  | false =>
  have loop : plainW o l = true → ∀ i, i ≤ l.length → (∀ g ∈ l.take i, plW g = true) → True := fun _ _ _ _ => trivial
  cases h3 : (o == 3) with
  | false =>
    have hp : plainW o l = true := by simp only [plainW, h6, h7, h3, Bool.false_or, Bool.false_and, Bool.not_false]
    try simp only [go_sem, seval, reduceCtorEq, encFs_len, encF, h6, h7, h3]
    repeat (first | refine WK.blockSeq ?_ | refine WK.blockCond ?_ | refine WK.blockReg ?_ | (refine WK.condT ?_ ?_; (focus (simp only [go_sem, seval, reduceCtorEq, encFs_len, encF, h6, h7, h3]; done))) | (refine WK.condF ?_ ?_; (focus (simp only [go_sem, seval, reduceCtorEq, encFs_len, encF, h6, h7, h3]; done))) | refine WK.seq ?_ | ((first | refine WK.reg ?_ | refine WK.skip ?_ | refine WK.ret ?_ | refine WK.exit ?_); simp only [go_sem, seval, reduceCtorEq, encFs_len, encF, h6, h7, h3]) | ((with_reducible refine And.intro ?_ ?_); omega) | omega)
    refine WK.rangeI (l.length) [1, 33] [] (fun i => []) (fun i => Sto.none.add (.box [.int .i64 o, .int .i64 v, .list false (encFs l)])) (fun i => ∀ g ∈ l.take i, plW g = true) (by simp) (by omega) (by decide) (by simp only [go_sem, seval, reduceCtorEq, encFs_len, encFs]) (by simp only [go_sem, seval, reduceCtorEq, encFs_len, encFs]) (by simp only [go_sem, seval, reduceCtorEq, encFs_len, encFs, List.take_zero]) (by first | rfl | (simp only [go_sem, seval, reduceCtorEq, encFs_len, encFs]; done) | (refine Sto.ext' (by simp only [go_sem, seval, reduceCtorEq, encFs_len, encFs]) (fun i => ?_); simp only [go_sem, seval, reduceCtorEq, encFs_len, encFs]; repeat' split; all_goals (first | rfl | omega | simp_all))) ?_ ?_
    · intro i hi hI
      have eg := encFs_get l i hi
      simp only [go_sem, seval, reduceCtorEq, encFs_len]
      try simp only [go_sem, seval, reduceCtorEq, encFs_len, eg, encFs_len, encF_eq]
      repeat (first | refine WK.blockSeq ?_ | refine WK.blockCond ?_ | refine WK.blockReg ?_ | (refine WK.condT ?_ ?_; (focus (simp only [go_sem, seval, reduceCtorEq, encFs_len, eg, encFs_len, encF_eq]; done))) | (refine WK.condF ?_ ?_; (focus (simp only [go_sem, seval, reduceCtorEq, encFs_len, eg, encFs_len, encF_eq]; done))) | refine WK.seq ?_ | ((first | refine WK.reg ?_ | refine WK.skip ?_ | refine WK.ret ?_ | refine WK.exit ?_); simp only [go_sem, seval, reduceCtorEq, encFs_len, eg, encFs_len, encF_eq]) | ((with_reducible refine And.intro ?_ ?_); omega) | omega)
      refine callK_pureL (ih l[i] (List.getElem_mem hi)) rfl ?_ ?_ ?_ <;> simp only [go_sem, seval, reduceCtorEq, encFs_len, encF_eq]
      cases hq : plW l[i] with
      | false =>
        have e : plW (.mk o v l) = false := by rw [plW_mk, plWL_all, hp, Bool.true_and]; exact List.all_eq_false.2 ⟨l[i], List.getElem_mem hi, by rw [hq]; exact Bool.false_ne_true⟩
        rw [e]
        try simp only [go_sem, seval, reduceCtorEq, encFs_len, hq]
        repeat (first | refine WK.blockSeq ?_ | refine WK.blockCond ?_ | refine WK.blockReg ?_ | (refine WK.condT ?_ ?_; (focus (simp only [go_sem, seval, reduceCtorEq, encFs_len, hq]; done))) | (refine WK.condF ?_ ?_; (focus (simp only [go_sem, seval, reduceCtorEq, encFs_len, hq]; done))) | refine WK.seq ?_ | ((first | refine WK.reg ?_ | refine WK.skip ?_ | refine WK.ret ?_ | refine WK.exit ?_); simp only [go_sem, seval, reduceCtorEq, encFs_len, hq]) | ((with_reducible refine And.intro ?_ ?_); omega) | omega)
        exact cut_none _
      | true =>
        try simp only [go_sem, seval, reduceCtorEq, encFs_len, hq]
        repeat (first | refine WK.blockSeq ?_ | refine WK.blockCond ?_ | refine WK.blockReg ?_ | (refine WK.condT ?_ ?_; (focus (simp only [go_sem, seval, reduceCtorEq, encFs_len, hq]; done))) | (refine WK.condF ?_ ?_; (focus (simp only [go_sem, seval, reduceCtorEq, encFs_len, hq]; done))) | refine WK.seq ?_ | ((first | refine WK.reg ?_ | refine WK.skip ?_ | refine WK.ret ?_ | refine WK.exit ?_); simp only [go_sem, seval, reduceCtorEq, encFs_len, hq]) | ((with_reducible refine And.intro ?_ ?_); omega) | omega)
        refine ⟨?_, ?_⟩
        · intro g hg
          rw [← List.take_append_getElem hi, List.mem_append, List.mem_singleton] at hg
          rcases hg with hg | rfl
          · exact hI g hg
          · exact hq
        refine Cut.by' (by first | exact Nat.le_refl _ | (simp only [Sto.get_add, Sto.get_set, Sto.get_del, Sto.get_none, Sto.next_add, Sto.next_set, Sto.next_del, Sto.next_none]; omega)) (by first | exact Nat.le_refl _ | (simp only [Sto.get_add, Sto.get_set, Sto.get_del, Sto.get_none, Sto.next_add, Sto.next_set, Sto.next_del, Sto.next_none]; omega)) (fun i hi => ?_) (fun i o hi ho => ?_)
        · (try simp only [Sto.get_add, Sto.get_set, Sto.get_del, Sto.get_none, Sto.next_add, Sto.next_set, Sto.next_del, Sto.next_none] at hi ⊢); ((repeat' split) <;> first | exact .inl rfl | exact .inr rfl | omega | (simp_all; done))
        · (try simp only [Sto.get_add, Sto.get_set, Sto.get_del, Sto.get_none, Sto.next_add, Sto.next_set, Sto.next_del, Sto.next_none] at hi ho ⊢); ((repeat' split at ho) <;> (repeat' split) <;> first | (exact ⟨ho, .inl ho⟩) | (cases ho; done) | omega | (cases ho; refine ⟨rfl, .inl rfl⟩) | (cases ho; refine ⟨rfl, .inr ?_⟩; simp only [go_sem, seval, reduceCtorEq, encFs_len]; first | done | omega | (refine ⟨?_, ?_⟩ <;> omega)) | (simp_all; done))
    · intro hI
      rw [List.take_length] at hI
      have e : plW (.mk o v l) = true := by rw [plW_mk, plWL_all, hp, Bool.true_and]; exact List.all_eq_true.2 hI
      rw [e]
      simp only [go_sem, seval, reduceCtorEq, encFs_len]
      try simp only [go_sem, seval, reduceCtorEq, encFs_len]
      repeat (first | refine WK.blockSeq ?_ | refine WK.blockCond ?_ | refine WK.blockReg ?_ | (refine WK.condT ?_ ?_; (focus (simp only [go_sem, seval, reduceCtorEq, encFs_len]; done))) | (refine WK.condF ?_ ?_; (focus (simp only [go_sem, seval, reduceCtorEq, encFs_len]; done))) | refine WK.seq ?_ | ((first | refine WK.reg ?_ | refine WK.skip ?_ | refine WK.ret ?_ | refine WK.exit ?_); simp only [go_sem, seval, reduceCtorEq, encFs_len]) | ((with_reducible refine And.intro ?_ ?_); omega) | omega)
      exact cut_none _
  | true =>
    cases h1 : ((l.length : Int) == 1) with
    | false =>
      rw [fin (by simp only [plainW, h6, h7, h3, h1, Bool.false_or, Bool.true_and, Bool.not_false, Bool.true_or, Bool.not_true])]
      try simp only [go_sem, seval, reduceCtorEq, encFs_len, encF, bne, h6, h7, h3, h1]
      repeat (first | refine WK.blockSeq ?_ | refine WK.blockCond ?_ | refine WK.blockReg ?_ | (refine WK.condT ?_ ?_; (focus (simp only [go_sem, seval, reduceCtorEq, encFs_len, encF, bne, h6, h7, h3, h1]; done))) | (refine WK.condF ?_ ?_; (focus (simp only [go_sem, seval, reduceCtorEq, encFs_len, encF, bne, h6, h7, h3, h1]; done))) | refine WK.seq ?_ | ((first | refine WK.reg ?_ | refine WK.skip ?_ | refine WK.ret ?_ | refine WK.exit ?_); simp only [go_sem, seval, reduceCtorEq, encFs_len, encF, bne, h6, h7, h3, h1]) | ((with_reducible refine And.intro ?_ ?_); omega) | omega)
      exact cut_none _
    | true =>
      have h0 : 0 < l.length := by have := eq_of_beq h1; omega
      have e0 := encFs_get l 0 h0
      have e1 : ((0 : Int) < (l.length : Int)) := by omega
      have em : (l.map Fm.op).getD 0 0 = l[0].op := by
        match l, h0 with
        | a :: _, _ => rfl
      cases h2 : (l[0].op == 2) with
      | false =>
        rw [fin (by simp only [plainW, h6, h7, h3, h1, h2, em, Bool.false_or, Bool.true_and, Bool.not_true, Bool.not_false])]
        try simp only [go_sem, seval, reduceCtorEq, encFs_len, encF, encF_eq, bne, h6, h7, h3, h1, h2, e0, e1]
        repeat (first | refine WK.blockSeq ?_ | refine WK.blockCond ?_ | refine WK.blockReg ?_ | (refine WK.condT ?_ ?_; (focus (simp only [go_sem, seval, reduceCtorEq, encFs_len, encF, encF_eq, bne, h6, h7, h3, h1, h2, e0, e1]; done))) | (refine WK.condF ?_ ?_; (focus (simp only [go_sem, seval, reduceCtorEq, encFs_len, encF, encF_eq, bne, h6, h7, h3, h1, h2, e0, e1]; done))) | refine WK.seq ?_ | ((first | refine WK.reg ?_ | refine WK.skip ?_ | refine WK.ret ?_ | refine WK.exit ?_); simp only [go_sem, seval, reduceCtorEq, encFs_len, encF, encF_eq, bne, h6, h7, h3, h1, h2, e0, e1]) | ((with_reducible refine And.intro ?_ ?_); omega) | omega)
        exact cut_none _
      | true =>
        have hp : plainW o l = true := by simp only [plainW, h6, h7, h3, h1, h2, em, Bool.false_or, Bool.true_and, Bool.not_true, Bool.not_false]
        try simp only [go_sem, seval, reduceCtorEq, encFs_len, encF, encF_eq, bne, h6, h7, h3, h1, h2, e0, e1]
        repeat (first | refine WK.blockSeq ?_ | refine WK.blockCond ?_ | refine WK.blockReg ?_ | (refine WK.condT ?_ ?_; (focus (simp only [go_sem, seval, reduceCtorEq, encFs_len, encF, encF_eq, bne, h6, h7, h3, h1, h2, e0, e1]; done))) | (refine WK.condF ?_ ?_; (focus (simp only [go_sem, seval, reduceCtorEq, encFs_len, encF, encF_eq, bne, h6, h7, h3, h1, h2, e0, e1]; done))) | refine WK.seq ?_ | ((first | refine WK.reg ?_ | refine WK.skip ?_ | refine WK.ret ?_ | refine WK.exit ?_); simp only [go_sem, seval, reduceCtorEq, encFs_len, encF, encF_eq, bne, h6, h7, h3, h1, h2, e0, e1]) | ((with_reducible refine And.intro ?_ ?_); omega) | omega)
        refine WK.rangeI (l.length) [1, 33] [] (fun i => []) (fun i => Sto.none.add (.box [.int .i64 o, .int .i64 v, .list false (encFs l)])) (fun i => ∀ g ∈ l.take i, plW g = true) (by simp) (by omega) (by decide) (by simp only [go_sem, seval, reduceCtorEq, encFs_len, encFs]) (by simp only [go_sem, seval, reduceCtorEq, encFs_len, encFs]) (by simp only [go_sem, seval, reduceCtorEq, encFs_len, encFs, List.take_zero]) (by first | rfl | (simp only [go_sem, seval, reduceCtorEq, encFs_len, encFs]; done) | (refine Sto.ext' (by simp only [go_sem, seval, reduceCtorEq, encFs_len, encFs]) (fun i => ?_); simp only [go_sem, seval, reduceCtorEq, encFs_len, encFs]; repeat' split; all_goals (first | rfl | omega | simp_all))) ?_ ?_
        · intro i hi hI
          have eg := encFs_get l i hi
          simp only [go_sem, seval, reduceCtorEq, encFs_len]
          try simp only [go_sem, seval, reduceCtorEq, encFs_len, eg, encFs_len, encF_eq]
          repeat (first | refine WK.blockSeq ?_ | refine WK.blockCond ?_ | refine WK.blockReg ?_ | (refine WK.condT ?_ ?_; (focus (simp only [go_sem, seval, reduceCtorEq, encFs_len, eg, encFs_len, encF_eq]; done))) | (refine WK.condF ?_ ?_; (focus (simp only [go_sem, seval, reduceCtorEq, encFs_len, eg, encFs_len, encF_eq]; done))) | refine WK.seq ?_ | ((first | refine WK.reg ?_ | refine WK.skip ?_ | refine WK.ret ?_ | refine WK.exit ?_); simp only [go_sem, seval, reduceCtorEq, encFs_len, eg, encFs_len, encF_eq]) | ((with_reducible refine And.intro ?_ ?_); omega) | omega)
          refine callK_pureL (ih l[i] (List.getElem_mem hi)) rfl ?_ ?_ ?_ <;> simp only [go_sem, seval, reduceCtorEq, encFs_len, encF_eq]
          cases hq : plW l[i] with
          | false =>
            have e : plW (.mk o v l) = false := by rw [plW_mk, plWL_all, hp, Bool.true_and]; exact List.all_eq_false.2 ⟨l[i], List.getElem_mem hi, by rw [hq]; exact Bool.false_ne_true⟩
            rw [e]
            try simp only [go_sem, seval, reduceCtorEq, encFs_len, hq]
            repeat (first | refine WK.blockSeq ?_ | refine WK.blockCond ?_ | refine WK.blockReg ?_ | (refine WK.condT ?_ ?_; (focus (simp only [go_sem, seval, reduceCtorEq, encFs_len, hq]; done))) | (refine WK.condF ?_ ?_; (focus (simp only [go_sem, seval, reduceCtorEq, encFs_len, hq]; done))) | refine WK.seq ?_ | ((first | refine WK.reg ?_ | refine WK.skip ?_ | refine WK.ret ?_ | refine WK.exit ?_); simp only [go_sem, seval, reduceCtorEq, encFs_len, hq]) | ((with_reducible refine And.intro ?_ ?_); omega) | omega)
            exact cut_none _
          | true =>
            try simp only [go_sem, seval, reduceCtorEq, encFs_len, hq]
            repeat (first | refine WK.blockSeq ?_ | refine WK.blockCond ?_ | refine WK.blockReg ?_ | (refine WK.condT ?_ ?_; (focus (simp only [go_sem, seval, reduceCtorEq, encFs_len, hq]; done))) | (refine WK.condF ?_ ?_; (focus (simp only [go_sem, seval, reduceCtorEq, encFs_len, hq]; done))) | refine WK.seq ?_ | ((first | refine WK.reg ?_ | refine WK.skip ?_ | refine WK.ret ?_ | refine WK.exit ?_); simp only [go_sem, seval, reduceCtorEq, encFs_len, hq]) | ((with_reducible refine And.intro ?_ ?_); omega) | omega)
            refine ⟨?_, ?_⟩
            · intro g hg
              rw [← List.take_append_getElem hi, List.mem_append, List.mem_singleton] at hg
              rcases hg with hg | rfl
              · exact hI g hg
              · exact hq
            refine Cut.by' (by first | exact Nat.le_refl _ | (simp only [Sto.get_add, Sto.get_set, Sto.get_del, Sto.get_none, Sto.next_add, Sto.next_set, Sto.next_del, Sto.next_none]; omega)) (by first | exact Nat.le_refl _ | (simp only [Sto.get_add, Sto.get_set, Sto.get_del, Sto.get_none, Sto.next_add, Sto.next_set, Sto.next_del, Sto.next_none]; omega)) (fun i hi => ?_) (fun i o hi ho => ?_)
            · (try simp only [Sto.get_add, Sto.get_set, Sto.get_del, Sto.get_none, Sto.next_add, Sto.next_set, Sto.next_del, Sto.next_none] at hi ⊢); ((repeat' split) <;> first | exact .inl rfl | exact .inr rfl | omega | (simp_all; done))
            · (try simp only [Sto.get_add, Sto.get_set, Sto.get_del, Sto.get_none, Sto.next_add, Sto.next_set, Sto.next_del, Sto.next_none] at hi ho ⊢); ((repeat' split at ho) <;> (repeat' split) <;> first | (exact ⟨ho, .inl ho⟩) | (cases ho; done) | omega | (cases ho; refine ⟨rfl, .inl rfl⟩) | (cases ho; refine ⟨rfl, .inr ?_⟩; simp only [go_sem, seval, reduceCtorEq, encFs_len]; first | done | omega | (refine ⟨?_, ?_⟩ <;> omega)) | (simp_all; done))
        · intro hI
          rw [List.take_length] at hI
          have e : plW (.mk o v l) = true := by rw [plW_mk, plWL_all, hp, Bool.true_and]; exact List.all_eq_true.2 hI
          rw [e]
          simp only [go_sem, seval, reduceCtorEq, encFs_len]
          try simp only [go_sem, seval, reduceCtorEq, encFs_len]
          repeat (first | refine WK.blockSeq ?_ | refine WK.blockCond ?_ | refine WK.blockReg ?_ | (refine WK.condT ?_ ?_; (focus (simp only [go_sem, seval, reduceCtorEq, encFs_len]; done))) | (refine WK.condF ?_ ?_; (focus (simp only [go_sem, seval, reduceCtorEq, encFs_len]; done))) | refine WK.seq ?_ | ((first | refine WK.reg ?_ | refine WK.skip ?_ | refine WK.ret ?_ | refine WK.exit ?_); simp only [go_sem, seval, reduceCtorEq, encFs_len]) | ((with_reducible refine And.intro ?_ ?_); omega) | omega)
          exact cut_none _
theorem plainL_ok (f : Fm) : ShorF f → PCall (C gl) 44 [encF f] (.bool (plW f)) := by
  induction f using Fm.ind with
  | h o v l ih =>
    intro hs
    simp only [ShorF] at hs
    exact plain_k o v l hs.1 fun g hg => ih g hg (hs.2.mem g hg)
end
end Go.Sx
