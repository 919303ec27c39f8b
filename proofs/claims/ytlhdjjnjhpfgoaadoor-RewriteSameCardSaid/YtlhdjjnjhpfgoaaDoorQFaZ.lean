import Derived.Test.YtlhdjjnjhpfgoaaDoorQGvA
import Derived.Test.YtlhdjjnjhpfgoaaDoorLgX
set_option maxRecDepth 100000
set_option linter.unusedSimpArgs false
set_option linter.unusedVariables false
set_option linter.unnecessarySimpa false
namespace Go.Sx
open Go Go.Lg Go.Proofs
theorem b19 {gl : GL} : Body (C gl).P 19 Tryd.f19 (codeOf Tryd.f19) := ⟨Tryd.func19, by kernel_rfl, by kernel_rfl⟩
mutual
def sameF : Fm → Fm → Bool
  | .mk o v l, .mk o' v' l' => (o == o') && (v == v') && sameL l l'
def sameL : List Fm → List Fm → Bool
  | [], [] => true
  | f :: l, g :: l' => sameF f g && sameL l l'
  | _, _ => false
end
mutual
theorem sameF_iff : ∀ f g : Fm, sameF f g = true ↔ f = g
  | .mk o v l, .mk o' v' l' => by
    simp only [sameF, Bool.and_eq_true, beq_iff_eq, sameL_iff l l', Fm.mk.injEq, and_assoc]
theorem sameL_iff : ∀ l l' : List Fm, sameL l l' = true ↔ l = l'
  | [], [] => by simp [sameL]
  | [], g :: l' => by simp [sameL]
  | f :: l, [] => by simp [sameL]
  | f :: l, g :: l' => by simp only [sameL, Bool.and_eq_true, sameF_iff f g, sameL_iff l l', List.cons.injEq]
end
theorem sameF_self (f : Fm) : sameF f f = true := (sameF_iff f f).2 rfl

theorem sameL_len {l l' : List Fm} (h : ((l.length : Int) == (l'.length : Int)) = false) : sameL l l' = false :=
  Bool.eq_false_iff.2 fun e => by
    rw [(sameL_iff l l').1 e] at h
    simp at h
theorem encFs_tk1 (l : List Fm) (i : Nat) (h : i < l.length) : encFs (l.take (i + 1)) = encFs (l.take i) ++ [.agg [.int .i64 l[i].op, .int .i64 l[i].var, .list false (encFs l[i].args)]] := by
  rw [← List.take_append_getElem h, ← encFs_app, encFs, encFs, encF_eq]
mutual
/-- No list is longer than so. -/
def ShorF : Fm → Prop
  | .mk _ _ l => l.length < 1000000 ∧ ShorL l
def ShorL : List Fm → Prop
  | [] => True
  | f :: l => ShorF f ∧ ShorL l
end
theorem ShorL.mem : ∀ {l : List Fm}, ShorL l → ∀ g ∈ l, ShorF g
  | f :: l, h, g, hg => by
    rcases List.mem_cons.1 hg with rfl | hg
    · exact h.1
    · exact ShorL.mem h.2 g hg
section
variable {gl : GL}
theorem sameR_k (o v : Int) (l : List Fm) (hlen : l.length < 9223372036854775807) (ih : ∀ g ∈ l, ∀ g' : Fm, PCall (C gl) 19 [encF g, encF g'] (.bool (sameF g g'))) (o' v' : Int) (l' : List Fm) :
    PCall (C gl) 19 [encF (.mk o v l), encF (.mk o' v' l')] (.bool (sameF (.mk o v l) (.mk o' v' l'))) := by
  refine pcallX (callX_of b19 (by simp [Tryd.ntmps19]) ?_) (by simp only [AllCl, cl_encF, and_true]) (.bool _)
  refine W.of ?_
  rw [Tryd.ntmps19]
  simp only [toK, codeOf, Tryd.f19, go_sem, seval, reduceCtorEq]
  cases h1 : (o == o') with
  | false =>
    try simp only [go_sem, seval, reduceCtorEq, encFs_len, encF, bne, h1]
    repeat (first | refine WK.blockSeq ?_ | refine WK.blockCond ?_ | refine WK.blockReg ?_ | (refine WK.condT ?_ ?_; (focus (simp only [go_sem, seval, reduceCtorEq, encFs_len, encF, bne, h1]; done))) | (refine WK.condF ?_ ?_; (focus (simp only [go_sem, seval, reduceCtorEq, encFs_len, encF, bne, h1]; done))) | refine WK.seq ?_ | ((first | refine WK.reg ?_ | refine WK.skip ?_ | refine WK.ret ?_ | refine WK.exit ?_); simp only [go_sem, seval, reduceCtorEq, encFs_len, encF, bne, h1]) | ((with_reducible refine And.intro ?_ ?_); omega) | omega)
    refine ⟨by simp [sameF, h1], ?_⟩
    refine Cut.by' (by first | exact Nat.le_refl _ | (simp only [Sto.get_add, Sto.get_set, Sto.get_del, Sto.get_none, Sto.next_add, Sto.next_set, Sto.next_del, Sto.next_none]; omega)) (by first | exact Nat.le_refl _ | (simp only [Sto.get_add, Sto.get_set, Sto.get_del, Sto.get_none, Sto.next_add, Sto.next_set, Sto.next_del, Sto.next_none]; omega)) (fun i hi => ?_) (fun i o hi ho => ?_)
    · (try simp only [Sto.get_add, Sto.get_set, Sto.get_del, Sto.get_none, Sto.next_add, Sto.next_set, Sto.next_del, Sto.next_none] at hi ⊢); ((repeat' split) <;> first | exact .inl rfl | exact .inr rfl | omega | (simp_all; done))
    · (try simp only [Sto.get_add, Sto.get_set, Sto.get_del, Sto.get_none, Sto.next_add, Sto.next_set, Sto.next_del, Sto.next_none] at hi ho ⊢); ((repeat' split at ho) <;> (repeat' split) <;> first | (exact ⟨ho, .inl ho⟩) | (cases ho; done) | omega | (cases ho; refine ⟨rfl, .inl rfl⟩) | (cases ho; refine ⟨rfl, .inr ?_⟩; simp only [go_sem, seval, reduceCtorEq, encFs_len]; first | done | omega | (refine ⟨?_, ?_⟩ <;> omega)) | (simp_all; done))
  | true =>
  cases h2 : (v == v') with
  | false =>
    try simp only [go_sem, seval, reduceCtorEq, encFs_len, encF, bne, h1, h2]
    repeat (first | refine WK.blockSeq ?_ | refine WK.blockCond ?_ | refine WK.blockReg ?_ | (refine WK.condT ?_ ?_; (focus (simp only [go_sem, seval, reduceCtorEq, encFs_len, encF, bne, h1, h2]; done))) | (refine WK.condF ?_ ?_; (focus (simp only [go_sem, seval, reduceCtorEq, encFs_len, encF, bne, h1, h2]; done))) | refine WK.seq ?_ | ((first | refine WK.reg ?_ | refine WK.skip ?_ | refine WK.ret ?_ | refine WK.exit ?_); simp only [go_sem, seval, reduceCtorEq, encFs_len, encF, bne, h1, h2]) | ((with_reducible refine And.intro ?_ ?_); omega) | omega)
    refine ⟨by simp [sameF, h2], ?_⟩
    refine Cut.by' (by first | exact Nat.le_refl _ | (simp only [Sto.get_add, Sto.get_set, Sto.get_del, Sto.get_none, Sto.next_add, Sto.next_set, Sto.next_del, Sto.next_none]; omega)) (by first | exact Nat.le_refl _ | (simp only [Sto.get_add, Sto.get_set, Sto.get_del, Sto.get_none, Sto.next_add, Sto.next_set, Sto.next_del, Sto.next_none]; omega)) (fun i hi => ?_) (fun i o hi ho => ?_)
    · (try simp only [Sto.get_add, Sto.get_set, Sto.get_del, Sto.get_none, Sto.next_add, Sto.next_set, Sto.next_del, Sto.next_none] at hi ⊢); ((repeat' split) <;> first | exact .inl rfl | exact .inr rfl | omega | (simp_all; done))
    · (try simp only [Sto.get_add, Sto.get_set, Sto.get_del, Sto.get_none, Sto.next_add, Sto.next_set, Sto.next_del, Sto.next_none] at hi ho ⊢); ((repeat' split at ho) <;> (repeat' split) <;> first | (exact ⟨ho, .inl ho⟩) | (cases ho; done) | omega | (cases ho; refine ⟨rfl, .inl rfl⟩) | (cases ho; refine ⟨rfl, .inr ?_⟩; simp only [go_sem, seval, reduceCtorEq, encFs_len]; first | done | omega | (refine ⟨?_, ?_⟩ <;> omega)) | (simp_all; done))
  | true =>
  cases h3 : ((l.length : Int) == (l'.length : Int)) with
  | false =>
    try simp only [go_sem, seval, reduceCtorEq, encFs_len, encF, bne, h1, h2, h3]
    repeat (first | refine WK.blockSeq ?_ | refine WK.blockCond ?_ | refine WK.blockReg ?_ | (refine WK.condT ?_ ?_; (focus (simp only [go_sem, seval, reduceCtorEq, encFs_len, encF, bne, h1, h2, h3]; done))) | (refine WK.condF ?_ ?_; (focus (simp only [go_sem, seval, reduceCtorEq, encFs_len, encF, bne, h1, h2, h3]; done))) | refine WK.seq ?_ | ((first | refine WK.reg ?_ | refine WK.skip ?_ | refine WK.ret ?_ | refine WK.exit ?_); simp only [go_sem, seval, reduceCtorEq, encFs_len, encF, bne, h1, h2, h3]) | ((with_reducible refine And.intro ?_ ?_); omega) | omega)
    refine ⟨by simp [sameF, sameL_len h3], ?_⟩
    refine Cut.by' (by first | exact Nat.le_refl _ | (simp only [Sto.get_add, Sto.get_set, Sto.get_del, Sto.get_none, Sto.next_add, Sto.next_set, Sto.next_del, Sto.next_none]; omega)) (by first | exact Nat.le_refl _ | (simp only [Sto.get_add, Sto.get_set, Sto.get_del, Sto.get_none, Sto.next_add, Sto.next_set, Sto.next_del, Sto.next_none]; omega)) (fun i hi => ?_) (fun i o hi ho => ?_)
    · (try simp only [Sto.get_add, Sto.get_set, Sto.get_del, Sto.get_none, Sto.next_add, Sto.next_set, Sto.next_del, Sto.next_none] at hi ⊢); ((repeat' split) <;> first | exact .inl rfl | exact .inr rfl | omega | (simp_all; done))
    · (try simp only [Sto.get_add, Sto.get_set, Sto.get_del, Sto.get_none, Sto.next_add, Sto.next_set, Sto.next_del, Sto.next_none] at hi ho ⊢); ((repeat' split at ho) <;> (repeat' split) <;> first | (exact ⟨ho, .inl ho⟩) | (cases ho; done) | omega | (cases ho; refine ⟨rfl, .inl rfl⟩) | (cases ho; refine ⟨rfl, .inr ?_⟩; simp only [go_sem, seval, reduceCtorEq, encFs_len]; first | done | omega | (refine ⟨?_, ?_⟩ <;> omega)) | (simp_all; done))
  | true =>
  try simp only [go_sem, seval, reduceCtorEq, encFs_len, encF, bne, h1, h2, h3]
  repeat (first | refine WK.blockSeq ?_ | refine WK.blockCond ?_ | refine WK.blockReg ?_ | (refine WK.condT ?_ ?_; (focus (simp only [go_sem, seval, reduceCtorEq, encFs_len, encF, bne, h1, h2, h3]; done))) | (refine WK.condF ?_ ?_; (focus (simp only [go_sem, seval, reduceCtorEq, encFs_len, encF, bne, h1, h2, h3]; done))) | refine WK.seq ?_ | ((first | refine WK.reg ?_ | refine WK.skip ?_ | refine WK.ret ?_ | refine WK.exit ?_); simp only [go_sem, seval, reduceCtorEq, encFs_len, encF, bne, h1, h2, h3]) | ((with_reducible refine And.intro ?_ ?_); omega) | omega)
  have hll : l.length = l'.length := by have : (l.length : Int) = l'.length := by simpa using h3
                                        omega
  refine WK.rangeI (l.length) [2, 3] [] (fun i => []) (fun i => (Sto.none.add (.box [.int .i64 o, .int .i64 v, .list false (encFs l)])).add (.box [.int .i64 o', .int .i64 v', .list false (encFs l')])) (fun i => l.take i = l'.take i) (by simp) (by omega) (by decide) (by simp only [go_sem, seval, reduceCtorEq, encFs_len]) (by simp only [go_sem, seval, reduceCtorEq, encFs_len]) (by simp only [go_sem, seval, reduceCtorEq, encFs_len, List.take_zero]) (by first | rfl | (simp only [go_sem, seval, reduceCtorEq, encFs_len]; done) | (refine Sto.ext' (by simp only [go_sem, seval, reduceCtorEq, encFs_len]) (fun i => ?_); simp only [go_sem, seval, reduceCtorEq, encFs_len]; repeat' split; all_goals (first | rfl | omega | simp_all))) ?_ ?_
  · intro i hi hI
    have hi' : i < l'.length := by omega
    have g1 := encFs_get l i hi
    have g2 := encFs_get l' i hi'
    simp only [go_sem, seval, reduceCtorEq, encFs_len, g1, g2, encF_eq]
    try simp only [go_sem, seval, reduceCtorEq, encFs_len, g1, g2, encF_eq]
    repeat (first | refine WK.blockSeq ?_ | refine WK.blockCond ?_ | refine WK.blockReg ?_ | (refine WK.condT ?_ ?_; (focus (simp only [go_sem, seval, reduceCtorEq, encFs_len, g1, g2, encF_eq]; done))) | (refine WK.condF ?_ ?_; (focus (simp only [go_sem, seval, reduceCtorEq, encFs_len, g1, g2, encF_eq]; done))) | refine WK.seq ?_ | ((first | refine WK.reg ?_ | refine WK.skip ?_ | refine WK.ret ?_ | refine WK.exit ?_); simp only [go_sem, seval, reduceCtorEq, encFs_len, g1, g2, encF_eq]) | ((with_reducible refine And.intro ?_ ?_); omega) | omega)
    refine WK.draw [⟨false, 0, 0⟩, ⟨false, 0, 0⟩, ⟨false, 0, 0⟩, ⟨false, 0, 0⟩, ⟨false, 0, 0⟩, ⟨false, 0, 0⟩, ⟨false, 0, 0⟩, ⟨false, 0, 0⟩, ⟨false, 0, 0⟩, ⟨false, 0, 0⟩, ⟨true, 0, 0⟩, ⟨false, 0, 0⟩] mixed (by kernel_rfl) ?_
    simp only [go_sem, seval, reduceCtorEq, encFs_len, g1, g2, encF_eq]
    try simp only [go_sem, seval, reduceCtorEq, encFs_len, g1, g2, encF_eq]
    repeat (first | refine WK.blockSeq ?_ | refine WK.blockCond ?_ | refine WK.blockReg ?_ | (refine WK.condT ?_ ?_; (focus (simp only [go_sem, seval, reduceCtorEq, encFs_len, g1, g2, encF_eq]; done))) | (refine WK.condF ?_ ?_; (focus (simp only [go_sem, seval, reduceCtorEq, encFs_len, g1, g2, encF_eq]; done))) | refine WK.seq ?_ | ((first | refine WK.reg ?_ | refine WK.skip ?_ | refine WK.ret ?_ | refine WK.exit ?_); simp only [go_sem, seval, reduceCtorEq, encFs_len, g1, g2, encF_eq]) | ((with_reducible refine And.intro ?_ ?_); omega) | omega)
    refine callD_pure (ih l[i] (List.getElem_mem hi) l'[i]) rfl ?_ ?_ ?_ <;> simp only [go_sem, seval, reduceCtorEq, encFs_len, g1, g2, encF_eq]
    cases hs : sameF l[i] l'[i] with
    | false =>
      try simp only [go_sem, seval, reduceCtorEq, encFs_len, g1, g2, encF_eq, hs]
      repeat (first | refine WK.blockSeq ?_ | refine WK.blockCond ?_ | refine WK.blockReg ?_ | (refine WK.condT ?_ ?_; (focus (simp only [go_sem, seval, reduceCtorEq, encFs_len, g1, g2, encF_eq, hs]; done))) | (refine WK.condF ?_ ?_; (focus (simp only [go_sem, seval, reduceCtorEq, encFs_len, g1, g2, encF_eq, hs]; done))) | refine WK.seq ?_ | ((first | refine WK.reg ?_ | refine WK.skip ?_ | refine WK.ret ?_ | refine WK.exit ?_); simp only [go_sem, seval, reduceCtorEq, encFs_len, g1, g2, encF_eq, hs]) | ((with_reducible refine And.intro ?_ ?_); omega) | omega)
      refine ⟨?_, ?_⟩
      · have hne : sameL l l' = false := Bool.eq_false_iff.2 fun e => by
          have := (sameL_iff l l').1 e
          subst this
          rw [sameF_self] at hs; cases hs
        simp [sameF, hne]
      refine Cut.by' (by first | exact Nat.le_refl _ | (simp only [Sto.get_add, Sto.get_set, Sto.get_del, Sto.get_none, Sto.next_add, Sto.next_set, Sto.next_del, Sto.next_none]; omega)) (by first | exact Nat.le_refl _ | (simp only [Sto.get_add, Sto.get_set, Sto.get_del, Sto.get_none, Sto.next_add, Sto.next_set, Sto.next_del, Sto.next_none]; omega)) (fun i hi => ?_) (fun i o hi ho => ?_)
      · (try simp only [Sto.get_add, Sto.get_set, Sto.get_del, Sto.get_none, Sto.next_add, Sto.next_set, Sto.next_del, Sto.next_none] at hi ⊢); ((repeat' split) <;> first | exact .inl rfl | exact .inr rfl | omega | (simp_all; done))
      · (try simp only [Sto.get_add, Sto.get_set, Sto.get_del, Sto.get_none, Sto.next_add, Sto.next_set, Sto.next_del, Sto.next_none] at hi ho ⊢); ((repeat' split at ho) <;> (repeat' split) <;> first | (exact ⟨ho, .inl ho⟩) | (cases ho; done) | omega | (cases ho; refine ⟨rfl, .inl rfl⟩) | (cases ho; refine ⟨rfl, .inr ?_⟩; simp only [go_sem, seval, reduceCtorEq, encFs_len, g1, g2, encF_eq]; first | done | omega | (refine ⟨?_, ?_⟩ <;> omega)) | (simp_all; done))
    | true =>
      try simp only [go_sem, seval, reduceCtorEq, encFs_len, g1, g2, encF_eq, hs]
      repeat (first | refine WK.blockSeq ?_ | refine WK.blockCond ?_ | refine WK.blockReg ?_ | (refine WK.condT ?_ ?_; (focus (simp only [go_sem, seval, reduceCtorEq, encFs_len, g1, g2, encF_eq, hs]; done))) | (refine WK.condF ?_ ?_; (focus (simp only [go_sem, seval, reduceCtorEq, encFs_len, g1, g2, encF_eq, hs]; done))) | refine WK.seq ?_ | ((first | refine WK.reg ?_ | refine WK.skip ?_ | refine WK.ret ?_ | refine WK.exit ?_); simp only [go_sem, seval, reduceCtorEq, encFs_len, g1, g2, encF_eq, hs]) | ((with_reducible refine And.intro ?_ ?_); omega) | omega)
      rw [← List.take_append_getElem hi, ← List.take_append_getElem hi', hI, (sameF_iff _ _).1 hs]
  · intro hI
    rw [List.take_length, hll, List.take_length] at hI
    subst hI
    simp only [go_sem, seval, reduceCtorEq, encFs_len]
    try simp only [go_sem, seval, reduceCtorEq, encFs_len]
    repeat (first | refine WK.blockSeq ?_ | refine WK.blockCond ?_ | refine WK.blockReg ?_ | (refine WK.condT ?_ ?_; (focus (simp only [go_sem, seval, reduceCtorEq, encFs_len]; done))) | (refine WK.condF ?_ ?_; (focus (simp only [go_sem, seval, reduceCtorEq, encFs_len]; done))) | refine WK.seq ?_ | ((first | refine WK.reg ?_ | refine WK.skip ?_ | refine WK.ret ?_ | refine WK.exit ?_); simp only [go_sem, seval, reduceCtorEq, encFs_len]) | ((with_reducible refine And.intro ?_ ?_); omega) | omega)
    refine ⟨?_, ?_⟩
    · have e1 : o = o' := by simpa using h1
      have e2 : v = v' := by simpa using h2
      subst e1; subst e2
      exact (sameF_self _).symm
    refine Cut.by' (by first | exact Nat.le_refl _ | (simp only [Sto.get_add, Sto.get_set, Sto.get_del, Sto.get_none, Sto.next_add, Sto.next_set, Sto.next_del, Sto.next_none]; omega)) (by first | exact Nat.le_refl _ | (simp only [Sto.get_add, Sto.get_set, Sto.get_del, Sto.get_none, Sto.next_add, Sto.next_set, Sto.next_del, Sto.next_none]; omega)) (fun i hi => ?_) (fun i o hi ho => ?_)
    · (try simp only [Sto.get_add, Sto.get_set, Sto.get_del, Sto.get_none, Sto.next_add, Sto.next_set, Sto.next_del, Sto.next_none] at hi ⊢); ((repeat' split) <;> first | exact .inl rfl | exact .inr rfl | omega | (simp_all; done))
    · (try simp only [Sto.get_add, Sto.get_set, Sto.get_del, Sto.get_none, Sto.next_add, Sto.next_set, Sto.next_del, Sto.next_none] at hi ho ⊢); ((repeat' split at ho) <;> (repeat' split) <;> first | (exact ⟨ho, .inl ho⟩) | (cases ho; done) | omega | (cases ho; refine ⟨rfl, .inl rfl⟩) | (cases ho; refine ⟨rfl, .inr ?_⟩; simp only [go_sem, seval, reduceCtorEq, encFs_len]; first | done | omega | (refine ⟨?_, ?_⟩ <;> omega)) | (simp_all; done))
theorem sameR_ok (f : Fm) : Shrt f → ∀ g : Fm, PCall (C gl) 19 [encF f, encF g] (.bool (sameF f g)) := by
  induction f using Fm.ind with
  | h o v l ih =>
    intro hs g
    simp only [Shrt] at hs
    obtain ⟨o', v', l'⟩ := g
    exact sameR_k o v l hs.1 (fun g hg => ih g hg (hs.2.mem g hg)) o' v' l'
end
end Go.Sx
