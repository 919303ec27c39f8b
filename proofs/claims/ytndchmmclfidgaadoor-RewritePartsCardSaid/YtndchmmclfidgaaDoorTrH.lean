import Derived.Test.YtndchmmclfidgaaDoorTrG
import Derived.Test.YtndchmmclfidgaaDoorTkP
import Derived.Test.YtndchmmclfidgaaDoorLgAv
set_option maxRecDepth 100000
set_option maxHeartbeats 4000000
set_option linter.unusedSimpArgs false
set_option linter.unusedVariables false
set_option linter.unnecessarySimpa false
namespace Go.Sx
open Go Go.Lg Go.Proofs
theorem b126 {gl : GL} : Body (C gl).P 126 Tryd.f126 (codeOf Tryd.f126) := ⟨Tryd.func126, by kernel_rfl, by kernel_rfl⟩
theorem b127 {gl : GL} : Body (C gl).P 127 Tryd.f127 (codeOf Tryd.f127) := ⟨Tryd.func127, by kernel_rfl, by kernel_rfl⟩
def prtC (o v : Int) (l : List Fm) (ps : List (List Fm)) : List Fm :=
  if o = 4 then ps.getD 0 [] ++ ps.getD 1 [] else if o = 8 ∨ o = 10 then (ps.getD 0 []).map (fun g => .mk o 0 [g]) else [.mk o v l]
mutual
def prtF : Fm → List Fm
  | .mk o v l => prtC o v l (prtL l)
def prtL : List Fm → List (List Fm)
  | [] => []
  | f :: l => prtF f :: prtL l
end
theorem args2 {l : List Fm} (hh : (l.length : Int) = 2) : ∃ g h, l = [g, h] := by
  rcases l with _ | ⟨g, _ | ⟨h, _ | ⟨x, l⟩⟩⟩
  · simp at hh
  · simp at hh
  · exact ⟨g, h, rfl⟩
  · simp only [List.length_cons] at hh; omega
theorem args1' {l : List Fm} (h : (l.length : Int) = 1) : ∃ g, l = [g] := List.length_eq_one_iff.1 (by omega)
theorem par_len (f : Fm) : okA f → 1 ≤ (prtF f).length ∧ (prtF f).length ≤ nN f := by
  induction f using Fm.ind with
  | h o v l ih =>
    intro hA
    have hok := hA _ (nodes_self _)
    have hp := nN_pos (.mk o v l)
    rw [okNode_eq] at hok
    simp only [Bool.and_eq_true] at hok
    obtain ⟨⟨⟨ho1, ho2⟩, hal⟩, hv⟩ := hok
    replace ho1 := of_decide_eq_true ho1
    replace ho2 := of_decide_eq_true ho2
    replace hal := of_decide_eq_true hal
    have hcs : o = 0 ∨ o = 1 ∨ o = 2 ∨ o = 3 ∨ o = 4 ∨ o = 5 ∨ o = 6 ∨ o = 7 ∨ o = 8 ∨ o = 9 ∨ o = 10 ∨ o = 11 ∨ o = 12 ∨ o = 13 := by omega
    by_cases h4 : o = 4
    · subst h4
      obtain ⟨g, h, rfl⟩ := args2 (l := l) hal
      have i1 := ih g (by simp) (okA_sub hA (by simp))
      have i2 := ih h (by simp) (okA_sub hA (by simp))
      simp only [prtF, prtL, prtC, List.getD_cons_zero, List.getD_cons_succ, if_true, List.length_append, nN_2]
      omega
    by_cases h8 : o = 8 ∨ o = 10
    · obtain ⟨g, rfl⟩ : ∃ g, l = [g] := by rcases h8 with rfl | rfl <;> exact args1' (l := l) hal
      have i1 := ih g (by simp) (okA_sub hA (by simp))
      simp only [prtF, prtL, prtC, List.getD_cons_zero, if_neg h4, if_pos h8, List.length_map, nN_1]
      omega
    · simp only [prtF, prtC, if_neg h4, if_neg h8, List.length_singleton]
      omega
theorem par_ok (f : Fm) : okA f → ∀ g ∈ prtF f, okA g ∧ nN g ≤ nN f := by
  induction f using Fm.ind with
  | h o v l ih =>
    intro hA
    have hok := hA _ (nodes_self _)
    have hok2 := hok
    rw [okNode_eq] at hok
    simp only [Bool.and_eq_true] at hok
    obtain ⟨⟨⟨ho1, ho2⟩, hal⟩, hv⟩ := hok
    replace ho1 := of_decide_eq_true ho1
    replace ho2 := of_decide_eq_true ho2
    replace hal := of_decide_eq_true hal
    have hcs : o = 0 ∨ o = 1 ∨ o = 2 ∨ o = 3 ∨ o = 4 ∨ o = 5 ∨ o = 6 ∨ o = 7 ∨ o = 8 ∨ o = 9 ∨ o = 10 ∨ o = 11 ∨ o = 12 ∨ o = 13 := by omega
    by_cases h4 : o = 4
    · subst h4
      obtain ⟨g, h, rfl⟩ := args2 (l := l) hal
      have i1 := ih g (by simp) (okA_sub hA (by simp))
      have i2 := ih h (by simp) (okA_sub hA (by simp))
      simp only [prtF, prtL, prtC, List.getD_cons_zero, List.getD_cons_succ, if_true, List.mem_append, nN_2]
      rintro x (hx | hx)
      · have := i1 x hx; exact ⟨this.1, by omega⟩
      · have := i2 x hx; exact ⟨this.1, by omega⟩
    by_cases h8 : o = 8 ∨ o = 10
    · obtain ⟨g, rfl⟩ : ∃ g, l = [g] := by rcases h8 with rfl | rfl <;> exact args1' (l := l) hal
      have i1 := ih g (by simp) (okA_sub hA (by simp))
      simp only [prtF, prtL, prtC, List.getD_cons_zero, if_neg h4, if_pos h8, List.mem_map, nN_1]
      rintro x ⟨y, hy, rfl⟩
      have := i1 y hy
      refine ⟨?_, by rw [nN_1]; omega⟩
      intro z hz
      simp only [nodesF, nodesL, List.append_nil, List.mem_cons] at hz
      rcases hz with rfl | hz
      · rcases h8 with rfl | rfl <;> rfl
      · exact this.1 z hz
    · simp only [prtF, prtC, if_neg h4, if_neg h8, List.mem_singleton]
      rintro x rfl
      exact ⟨hA, Nat.le_refl _⟩
theorem encFs_append' (a b : List Fm) : encFs a ++ encFs b = encFs (a ++ b) := by
  induction a with
  | nil => rfl
  | cons x l ih => simp only [List.cons_append, encFs, ih]
theorem nL_sub : ∀ {l : List Fm} {g : Fm}, g ∈ l → nN g ≤ (nodesL l).length
  | f :: l, g, h => by
    rw [nodesL, List.length_append]
    rcases List.mem_cons.1 h with rfl | h
    · exact Nat.le_add_right _ _
    · have := nL_sub h; omega
theorem nN_sub {o v : Int} {l : List Fm} {g : Fm} (h : g ∈ l) : nN g < nN (.mk o v l) := by
  have := nL_sub h
  simp only [nN, nodesF, List.length_cons] at this ⊢
  omega
section
variable {gl : GL}
theorem wpar_k (o v : Int) (l : List Fm) (hA : okA (.mk o v l)) (hn : nN (.mk o v l) < 100000) (ih : ∀ g σ, CtrX (C gl) 126 [encF g] [] σ (g ∈ l) (.own σ.next (encFs (prtF g))) (σ.add (.tok 3 (prtF g).length))) (σ : Sto) :
    CallX (C gl) 126 [encF (.mk o v l)] σ (.own σ.next (encFs (prtF (.mk o v l)))) (σ.add (.tok 3 (prtF (.mk o v l)).length)) := by
  have hok := hA _ (nodes_self _)
  have hlen := par_len _ hA
  have hsA := shor_okA _ hA
  have hsub := fun g (hg : g ∈ l) => par_len g (okA_sub hA hg)
  rw [okNode_eq] at hok
  simp only [Bool.and_eq_true] at hok
  obtain ⟨⟨⟨ho1, ho2⟩, hal⟩, hv⟩ := hok
  replace ho1 := of_decide_eq_true ho1
  replace ho2 := of_decide_eq_true ho2
  replace hal := of_decide_eq_true hal
  have hcs : o = 0 ∨ o = 1 ∨ o = 2 ∨ o = 3 ∨ o = 4 ∨ o = 5 ∨ o = 6 ∨ o = 7 ∨ o = 8 ∨ o = 9 ∨ o = 10 ∨ o = 11 ∨ o = 12 ∨ o = 13 := by omega
  refine callX_of b126 (by simp [Tryd.ntmps126]) ?_
  refine W.of ?_
  rw [Tryd.ntmps126]
  simp only [toK, codeOf, Tryd.f126, go_sem, seval, reduceCtorEq]
  refine WK.reserve 3 ?_
  by_cases h4 : o = 4
  · subst h4
    obtain ⟨g, h, rfl⟩ := args2 (l := l) hal
    have i1 := hsub g (by simp)
    have i2 := hsub h (by simp)
    have e : prtF (.mk 4 v [g, h]) = prtF g ++ prtF h := rfl
    rw [e] at hlen ⊢
    rw [List.length_append] at hlen ⊢
    have H := And.intro @encFs_len @encFs_append'
    refine autoN ?_
    repeat' (first | (refine WK.draw (ops := #[_, _, _, _, _, _, _, _, _, _, _, _]) [dq 0 0, dq 0 0, dq 0 0, dq 0 0, dm, dq 0 0, dq 1 0, dq 1 0, dq 1 0, dm, dm, dq 0 0] mixed (by kernel_rfl) ?_; refine autoN ?_))
    try exact trivial
    refine WK.tokmove (es := 3) (es' := 3) (n := (prtF g).length + (prtF h).length) (xs := encFs (prtF g ++ prtF h)) 2 σ.next (σ.next + 2) (by decide) (by simp only [go_sem, seval, reduceCtorEq]) (by simp only [go_sem, seval, reduceCtorEq]) (by simp only [go_sem, seval, reduceCtorEq]) (by rw [encFs_len, List.length_append]) (by omega) (by omega) ?_
    have H := trivial
    refine autoA ?_
    repeat' (first | (refine WK.draw (ops := #[_, _, _, _, _, _, _, _, _, _, _, _]) [dq 0 0, dq 0 0, dq 0 0, dq 0 0, dm, dq 0 0, dq 1 0, dq 1 0, dq 1 0, dm, dm, dq 0 0] mixed (by kernel_rfl) ?_; refine autoA ?_))
    try exact trivial
    exact cutA
  by_cases h8 : o = 8 ∨ o = 10
  · obtain ⟨g, rfl⟩ : ∃ g, l = [g] := by rcases h8 with rfl | rfl <;> exact args1' (l := l) hal
    have i1 := hsub g (by simp)
    have e : prtF (.mk o v [g]) = (prtF g).map (fun x => .mk o 0 [x]) := by simp only [prtF, prtL, prtC, if_neg h4, if_pos h8, List.getD_cons_zero]
    rw [e] at hlen ⊢
    rw [List.length_map] at hlen ⊢
    have c4 : (o == 4) = false := beq_eq_false_iff_ne.2 h4
    have cc : ((o == 10) = false ∧ (o == 8) = true) ∨ ((o == 10) = true ∧ (o == 8) = false) := by rcases h8 with rfl | rfl <;> simp
    clear hcs hv hal ho1 ho2 h8 e
    rcases cc with ⟨c10, c8⟩ | ⟨c10, c8⟩
    all_goals
      have H := And.intro @encFs_len (And.intro @c4 (And.intro @c10 @c8))
      refine autoN ?_
      repeat' (first | (refine WK.draw (ops := #[_, _, _, _, _, _, _, _, _, _, _, _]) [dq 0 0, dq 0 0, dq 0 0, dq 0 0, dm, dq 0 0, dq 1 0, dq 1 0, dq 1 0, dm, dm, dq 0 0] mixed (by kernel_rfl) ?_; refine autoN ?_))
      try exact trivial
      refine WK.own0 3 3 (by decide) (by simp only [go_sem, seval, reduceCtorEq]) ?_
      refine rangeA ((prtF g).length) [1, 28] [3] (fun i => [.own (σ.next + 3) (encFs (((prtF g).take i).map (fun x => .mk o 0 [x])))]) (fun i => ((((σ.add (.tok 3 0)).add (.box [.int .i64 o, .int .i64 v, .list false (encFs [g])])).add (.tok 3 (prtF g).length)).add (.tok 3 i))) ?_ ?_
      · intro i hi
        have H := @hi
        refine autoA ?_
        repeat' (first | (refine WK.draw (ops := #[_, _, _, _, _, _, _, _, _, _, _, _]) [dq 0 0, dq 0 0, dq 0 0, dq 0 0, dm, dq 0 0, dq 1 0, dq 1 0, dq 1 0, dm, dm, dq 0 0] mixed (by kernel_rfl) ?_; refine autoA ?_))
        try exact trivial
        exact cutA
      · rw [List.take_length]
        have H := trivial
        refine autoN ?_
        repeat' (first | (refine WK.draw (ops := #[_, _, _, _, _, _, _, _, _, _, _, _]) [dq 0 0, dq 0 0, dq 0 0, dq 0 0, dm, dq 0 0, dq 1 0, dq 1 0, dq 1 0, dm, dm, dq 0 0] mixed (by kernel_rfl) ?_; refine autoN ?_))
        try exact trivial
        refine WK.tokmove (es := 3) (es' := 3) (n := (prtF g).length) (xs := encFs ((prtF g).map (fun x => .mk o 0 [x]))) 2 σ.next (σ.next + 3) (by decide) (by simp only [go_sem, seval, reduceCtorEq]) (by simp only [go_sem, seval, reduceCtorEq]) (by simp only [go_sem, seval, reduceCtorEq]) (by rw [encFs_len, List.length_map]) (by omega) (by omega) ?_
        have H := trivial
        refine autoA ?_
        repeat' (first | (refine WK.draw (ops := #[_, _, _, _, _, _, _, _, _, _, _, _]) [dq 0 0, dq 0 0, dq 0 0, dq 0 0, dm, dq 0 0, dq 1 0, dq 1 0, dq 1 0, dm, dm, dq 0 0] mixed (by kernel_rfl) ?_; refine autoA ?_))
        try exact trivial
        exact cutA
  · have e : prtF (.mk o v l) = [.mk o v l] := by simp only [prtF, prtC, if_neg h4, if_neg h8]
    rw [e] at hlen ⊢
    have c4 : (o == 4) = false := beq_eq_false_iff_ne.2 h4
    have c8 : (o == 8) = false := beq_eq_false_iff_ne.2 (fun e => h8 (.inl e))
    have c10 : (o == 10) = false := beq_eq_false_iff_ne.2 (fun e => h8 (.inr e))
    have H := And.intro @c4 (And.intro @c8 @c10)
    refine autoN ?_
    repeat' (first | (refine WK.draw (ops := #[_, _, _, _, _, _, _, _, _, _, _, _]) [dq 0 0, dq 0 0, dq 0 0, dq 0 0, dm, dq 0 0, dq 1 0, dq 1 0, dq 1 0, dm, dm, dq 0 0] mixed (by kernel_rfl) ?_; refine autoN ?_))
    try exact trivial
    refine WK.own (xs := [encF (.mk o v l)]) 2 3 (by decide) (by first | (simp only [go_sem, seval, reduceCtorEq]; done) | (simp only [go_sem, seval, reduceCtorEq]; rfl)) ?_
    have H := trivial
    refine autoN ?_
    repeat' (first | (refine WK.draw (ops := #[_, _, _, _, _, _, _, _, _, _, _, _]) [dq 0 0, dq 0 0, dq 0 0, dq 0 0, dm, dq 0 0, dq 1 0, dq 1 0, dq 1 0, dm, dm, dq 0 0] mixed (by kernel_rfl) ?_; refine autoN ?_))
    try exact trivial
    refine WK.tokmove (es := 3) (es' := 3) (n := 1) (xs := [encF (.mk o v l)]) 2 σ.next (σ.next + 2) (by decide) (by simp only [go_sem, seval, reduceCtorEq]) (by simp only [go_sem, seval, reduceCtorEq]) (by simp only [go_sem, seval, reduceCtorEq]) rfl (by omega) (by omega) ?_
    have H := trivial
    refine autoA ?_
    repeat' (first | (refine WK.draw (ops := #[_, _, _, _, _, _, _, _, _, _, _, _]) [dq 0 0, dq 0 0, dq 0 0, dq 0 0, dm, dq 0 0, dq 1 0, dq 1 0, dq 1 0, dm, dm, dq 0 0] mixed (by kernel_rfl) ?_; refine autoA ?_))
    try exact trivial
    exact ⟨⟨.refl _, Nat.lt_succ_self _⟩, cutA⟩
theorem wpar_ok (f : Fm) : okA f → nN f < 100000 → ∀ σ, CallX (C gl) 126 [encF f] σ (.own σ.next (encFs (prtF f))) (σ.add (.tok 3 (prtF f).length)) := by
  induction f using Fm.ind with
  | h o v l ih =>
    intro h hn σ
    exact wpar_k o v l h hn (fun g σ => ⟨fun hg => ih g hg (okA_sub h hg) (by have := nN_sub hg (o := o) (v := v); omega) σ⟩) σ
instance wpar_i (f : Fm) (σ : Sto) : CtrX (C gl) 126 [encF f] [] σ (okA f ∧ nN f < 100000) (.own σ.next (encFs (prtF f))) (σ.add (.tok 3 (prtF f).length)) := ⟨fun h => wpar_ok f h.1 h.2 σ⟩
theorem rpar_k (o v : Int) (l : List Fm) (hA : okA (.mk o v l)) (hn : nN (.mk o v l) < 100000) (ih : ∀ g σ, CtrX (C gl) 127 [encF g] [] σ (g ∈ l) (.own σ.next (encFs (prtF g))) (σ.add (.tok 3 (prtF g).length))) (σ : Sto) :
    CallX (C gl) 127 [encF (.mk o v l)] σ (.own σ.next (encFs (prtF (.mk o v l)))) (σ.add (.tok 3 (prtF (.mk o v l)).length)) := by
  have hok := hA _ (nodes_self _)
  have hlen := par_len _ hA
  have hsA := shor_okA _ hA
  have hsub := fun g (hg : g ∈ l) => par_len g (okA_sub hA hg)
  rw [okNode_eq] at hok
  simp only [Bool.and_eq_true] at hok
  obtain ⟨⟨⟨ho1, ho2⟩, hal⟩, hv⟩ := hok
  replace ho1 := of_decide_eq_true ho1
  replace ho2 := of_decide_eq_true ho2
  replace hal := of_decide_eq_true hal
  have hcs : o = 0 ∨ o = 1 ∨ o = 2 ∨ o = 3 ∨ o = 4 ∨ o = 5 ∨ o = 6 ∨ o = 7 ∨ o = 8 ∨ o = 9 ∨ o = 10 ∨ o = 11 ∨ o = 12 ∨ o = 13 := by omega
  refine callX_of b127 (by simp [Tryd.ntmps127]) ?_
  refine W.of ?_
  rw [Tryd.ntmps127]
  simp only [toK, codeOf, Tryd.f127, go_sem, seval, reduceCtorEq]
  refine WK.reserve 3 ?_
  by_cases h4 : o = 4
  · subst h4
    obtain ⟨g, h, rfl⟩ := args2 (l := l) hal
    have i1 := hsub g (by simp)
    have i2 := hsub h (by simp)
    have e : prtF (.mk 4 v [g, h]) = prtF g ++ prtF h := rfl
    rw [e] at hlen ⊢
    rw [List.length_append] at hlen ⊢
    have H := And.intro @encFs_len @encFs_append'
    refine autoN ?_
    repeat' (first | (refine WK.draw (ops := #[_, _, _, _, _, _, _, _, _, _, _, _]) [dq 0 0, dq 0 0, dq 0 0, dq 0 0, dm, dq 0 0, dq 1 0, dq 1 0, dq 1 0, dm, dm, dq 0 0] mixed (by kernel_rfl) ?_; refine autoN ?_))
    try exact trivial
    refine WK.tokmove (es := 3) (es' := 3) (n := (prtF g).length + (prtF h).length) (xs := encFs (prtF g ++ prtF h)) 2 σ.next (σ.next + 2) (by decide) (by simp only [go_sem, seval, reduceCtorEq]) (by simp only [go_sem, seval, reduceCtorEq]) (by simp only [go_sem, seval, reduceCtorEq]) (by rw [encFs_len, List.length_append]) (by omega) (by omega) ?_
    have H := trivial
    refine autoA ?_
    repeat' (first | (refine WK.draw (ops := #[_, _, _, _, _, _, _, _, _, _, _, _]) [dq 0 0, dq 0 0, dq 0 0, dq 0 0, dm, dq 0 0, dq 1 0, dq 1 0, dq 1 0, dm, dm, dq 0 0] mixed (by kernel_rfl) ?_; refine autoA ?_))
    try exact trivial
    exact cutA
  by_cases h8 : o = 8 ∨ o = 10
  · obtain ⟨g, rfl⟩ : ∃ g, l = [g] := by rcases h8 with rfl | rfl <;> exact args1' (l := l) hal
    have i1 := hsub g (by simp)
    have e : prtF (.mk o v [g]) = (prtF g).map (fun x => .mk o 0 [x]) := by simp only [prtF, prtL, prtC, if_neg h4, if_pos h8, List.getD_cons_zero]
    rw [e] at hlen ⊢
    rw [List.length_map] at hlen ⊢
    have c4 : (o == 4) = false := beq_eq_false_iff_ne.2 h4
    have cc : ((o == 10) = false ∧ (o == 8) = true) ∨ ((o == 10) = true ∧ (o == 8) = false) := by rcases h8 with rfl | rfl <;> simp
    clear hcs hv hal ho1 ho2 h8 e
    rcases cc with ⟨c10, c8⟩ | ⟨c10, c8⟩
    all_goals
      have H := And.intro @encFs_len (And.intro @c4 (And.intro @c10 @c8))
      refine autoN ?_
      repeat' (first | (refine WK.draw (ops := #[_, _, _, _, _, _, _, _, _, _, _, _]) [dq 0 0, dq 0 0, dq 0 0, dq 0 0, dm, dq 0 0, dq 1 0, dq 1 0, dq 1 0, dm, dm, dq 0 0] mixed (by kernel_rfl) ?_; refine autoN ?_))
      try exact trivial
      refine WK.own0 3 3 (by decide) (by simp only [go_sem, seval, reduceCtorEq]) ?_
      refine rangeA ((prtF g).length) [1, 28] [3] (fun i => [.own (σ.next + 3) (encFs (((prtF g).take i).map (fun x => .mk o 0 [x])))]) (fun i => ((((σ.add (.tok 3 0)).add (.box [.int .i64 o, .int .i64 v, .list false (encFs [g])])).add (.tok 3 (prtF g).length)).add (.tok 3 i))) ?_ ?_
      · intro i hi
        have H := @hi
        refine autoA ?_
        repeat' (first | (refine WK.draw (ops := #[_, _, _, _, _, _, _, _, _, _, _, _]) [dq 0 0, dq 0 0, dq 0 0, dq 0 0, dm, dq 0 0, dq 1 0, dq 1 0, dq 1 0, dm, dm, dq 0 0] mixed (by kernel_rfl) ?_; refine autoA ?_))
        try exact trivial
        exact cutA
      · rw [List.take_length]
        have H := trivial
        refine autoN ?_
        repeat' (first | (refine WK.draw (ops := #[_, _, _, _, _, _, _, _, _, _, _, _]) [dq 0 0, dq 0 0, dq 0 0, dq 0 0, dm, dq 0 0, dq 1 0, dq 1 0, dq 1 0, dm, dm, dq 0 0] mixed (by kernel_rfl) ?_; refine autoN ?_))
        try exact trivial
        refine WK.tokmove (es := 3) (es' := 3) (n := (prtF g).length) (xs := encFs ((prtF g).map (fun x => .mk o 0 [x]))) 2 σ.next (σ.next + 3) (by decide) (by simp only [go_sem, seval, reduceCtorEq]) (by simp only [go_sem, seval, reduceCtorEq]) (by simp only [go_sem, seval, reduceCtorEq]) (by rw [encFs_len, List.length_map]) (by omega) (by omega) ?_
        have H := trivial
        refine autoA ?_
        repeat' (first | (refine WK.draw (ops := #[_, _, _, _, _, _, _, _, _, _, _, _]) [dq 0 0, dq 0 0, dq 0 0, dq 0 0, dm, dq 0 0, dq 1 0, dq 1 0, dq 1 0, dm, dm, dq 0 0] mixed (by kernel_rfl) ?_; refine autoA ?_))
        try exact trivial
        exact cutA
  · have e : prtF (.mk o v l) = [.mk o v l] := by simp only [prtF, prtC, if_neg h4, if_neg h8]
    rw [e] at hlen ⊢
    have c4 : (o == 4) = false := beq_eq_false_iff_ne.2 h4
    have c8 : (o == 8) = false := beq_eq_false_iff_ne.2 (fun e => h8 (.inl e))
    have c10 : (o == 10) = false := beq_eq_false_iff_ne.2 (fun e => h8 (.inr e))
    have H := And.intro @c4 (And.intro @c8 @c10)
    refine autoN ?_
    repeat' (first | (refine WK.draw (ops := #[_, _, _, _, _, _, _, _, _, _, _, _]) [dq 0 0, dq 0 0, dq 0 0, dq 0 0, dm, dq 0 0, dq 1 0, dq 1 0, dq 1 0, dm, dm, dq 0 0] mixed (by kernel_rfl) ?_; refine autoN ?_))
    try exact trivial
    refine WK.own (xs := [encF (.mk o v l)]) 2 3 (by decide) (by first | (simp only [go_sem, seval, reduceCtorEq]; done) | (simp only [go_sem, seval, reduceCtorEq]; rfl)) ?_
    have H := trivial
    refine autoN ?_
    repeat' (first | (refine WK.draw (ops := #[_, _, _, _, _, _, _, _, _, _, _, _]) [dq 0 0, dq 0 0, dq 0 0, dq 0 0, dm, dq 0 0, dq 1 0, dq 1 0, dq 1 0, dm, dm, dq 0 0] mixed (by kernel_rfl) ?_; refine autoN ?_))
    try exact trivial
    refine WK.tokmove (es := 3) (es' := 3) (n := 1) (xs := [encF (.mk o v l)]) 2 σ.next (σ.next + 2) (by decide) (by simp only [go_sem, seval, reduceCtorEq]) (by simp only [go_sem, seval, reduceCtorEq]) (by simp only [go_sem, seval, reduceCtorEq]) rfl (by omega) (by omega) ?_
    have H := trivial
    refine autoA ?_
    repeat' (first | (refine WK.draw (ops := #[_, _, _, _, _, _, _, _, _, _, _, _]) [dq 0 0, dq 0 0, dq 0 0, dq 0 0, dm, dq 0 0, dq 1 0, dq 1 0, dq 1 0, dm, dm, dq 0 0] mixed (by kernel_rfl) ?_; refine autoA ?_))
    try exact trivial
    exact ⟨⟨.refl _, Nat.lt_succ_self _⟩, cutA⟩
theorem rpar_ok (f : Fm) : okA f → nN f < 100000 → ∀ σ, CallX (C gl) 127 [encF f] σ (.own σ.next (encFs (prtF f))) (σ.add (.tok 3 (prtF f).length)) := by
  induction f using Fm.ind with
  | h o v l ih =>
    intro h hn σ
    exact rpar_k o v l h hn (fun g σ => ⟨fun hg => ih g hg (okA_sub h hg) (by have := nN_sub hg (o := o) (v := v); omega) σ⟩) σ
instance rpar_i (f : Fm) (σ : Sto) : CtrX (C gl) 127 [encF f] [] σ (okA f ∧ nN f < 100000) (.own σ.next (encFs (prtF f))) (σ.add (.tok 3 (prtF f).length)) := ⟨fun h => rpar_ok f h.1 h.2 σ⟩
end
end Go.Sx
