import Derived.Test.YtlhdjjnjhpfgoaaDoorQTrG
import Derived.Test.YtlhdjjnjhpfgoaaDoorQTkP
import Derived.Test.YtlhdjjnjhpfgoaaDoorLgAv
import Derived.Test.YtlhdjjnjhpfgoaaDoorQTrD
set_option maxRecDepth 100000
set_option maxHeartbeats 4000000
set_option linter.unusedSimpArgs false
set_option linter.unusedVariables false
set_option linter.unnecessarySimpa false
namespace Go.Sx
open Go Go.Lg Go.Proofs
theorem b34 {gl : GL} : Body (C gl).P 34 Tryd.f34 (codeOf Tryd.f34) := ⟨Tryd.func34, by kernel_rfl, by kernel_rfl⟩
def prtC (o v : Int) (l : List Fm) (ps : List (List Fm)) : List Fm :=
  if o = 4 then ps.getD 0 [] ++ ps.getD 1 [] else if o = 8 ∨ o = 10 then (ps.getD 0 []).map (fun g => .mk o 0 [g]) else [.mk o v l]
mutual
def prtF : Fm → List Fm
  | .mk o v l => prtC o v l (prtL l)
def prtL : List Fm → List (List Fm)
  | [] => []
  | f :: l => prtF f :: prtL l
end
theorem args2 {l : List Fm} (hh : (l.length : Int) = 2) : ∃ g h, l = [g, h] := by
  rcases l with _ | ⟨g, _ | ⟨h, _ | ⟨x, l⟩⟩⟩
  · simp at hh
  · simp at hh
  · exact ⟨g, h, rfl⟩
  · simp only [List.length_cons] at hh; omega
theorem args1' {l : List Fm} (h : (l.length : Int) = 1) : ∃ g, l = [g] := List.length_eq_one_iff.1 (by omega)
theorem par_len (f : Fm) : okA f → 1 ≤ (prtF f).length ∧ (prtF f).length ≤ nN f := by
  induction f using Fm.ind with
  | h o v l ih =>
    intro hA
    have hok := hA _ (nodes_self _)
    have hp := nN_pos (.mk o v l)
    rw [okNode_eq] at hok
    simp only [Bool.and_eq_true] at hok
    obtain ⟨⟨⟨ho1, ho2⟩, hal⟩, hv⟩ := hok
    replace ho1 := of_decide_eq_true ho1
    replace ho2 := of_decide_eq_true ho2
    replace hal := of_decide_eq_true hal
    have hcs : o = 0 ∨ o = 1 ∨ o = 2 ∨ o = 3 ∨ o = 4 ∨ o = 5 ∨ o = 6 ∨ o = 7 ∨ o = 8 ∨ o = 9 ∨ o = 10 ∨ o = 11 ∨ o = 12 ∨ o = 13 := by omega
    by_cases h4 : o = 4
    · subst h4
      obtain ⟨g, h, rfl⟩ := args2 (l := l) hal
      have i1 := ih g (by simp) (okA_sub hA (by simp))
      have i2 := ih h (by simp) (okA_sub hA (by simp))
      simp only [prtF, prtL, prtC, List.getD_cons_zero, List.getD_cons_succ, if_true, List.length_append, nN_2]
      omega
    by_cases h8 : o = 8 ∨ o = 10
    · obtain ⟨g, rfl⟩ : ∃ g, l = [g] := by rcases h8 with rfl | rfl <;> exact args1' (l := l) hal
      have i1 := ih g (by simp) (okA_sub hA (by simp))
      simp only [prtF, prtL, prtC, List.getD_cons_zero, if_neg h4, if_pos h8, List.length_map, nN_1]
      omega
    · simp only [prtF, prtC, if_neg h4, if_neg h8, List.length_singleton]
      omega
theorem par_ok (f : Fm) : okA f → ∀ g ∈ prtF f, okA g ∧ nN g ≤ nN f := by
  induction f using Fm.ind with
  | h o v l ih =>
    intro hA
    have hok := hA _ (nodes_self _)
    have hok2 := hok
    rw [okNode_eq] at hok
    simp only [Bool.and_eq_true] at hok
    obtain ⟨⟨⟨ho1, ho2⟩, hal⟩, hv⟩ := hok
    replace ho1 := of_decide_eq_true ho1
    replace ho2 := of_decide_eq_true ho2
    replace hal := of_decide_eq_true hal
    have hcs : o = 0 ∨ o = 1 ∨ o = 2 ∨ o = 3 ∨ o = 4 ∨ o = 5 ∨ o = 6 ∨ o = 7 ∨ o = 8 ∨ o = 9 ∨ o = 10 ∨ o = 11 ∨ o = 12 ∨ o = 13 := by omega
    by_cases h4 : o = 4
    · subst h4
      obtain ⟨g, h, rfl⟩ := args2 (l := l) hal
      have i1 := ih g (by simp) (okA_sub hA (by simp))
      have i2 := ih h (by simp) (okA_sub hA (by simp))
      simp only [prtF, prtL, prtC, List.getD_cons_zero, List.getD_cons_succ, if_true, List.mem_append, nN_2]
      rintro x (hx | hx)
      · have := i1 x hx; exact ⟨this.1, by omega⟩
      · have := i2 x hx; exact ⟨this.1, by omega⟩
    by_cases h8 : o = 8 ∨ o = 10
    · obtain ⟨g, rfl⟩ : ∃ g, l = [g] := by rcases h8 with rfl | rfl <;> exact args1' (l := l) hal
      have i1 := ih g (by simp) (okA_sub hA (by simp))
      simp only [prtF, prtL, prtC, List.getD_cons_zero, if_neg h4, if_pos h8, List.mem_map, nN_1]
      rintro x ⟨y, hy, rfl⟩
      have := i1 y hy
      refine ⟨?_, by rw [nN_1]; omega⟩
      intro z hz
      simp only [nodesF, nodesL, List.append_nil, List.mem_cons] at hz
      rcases hz with rfl | hz
      · rcases h8 with rfl | rfl <;> rfl
      · exact this.1 z hz
    · simp only [prtF, prtC, if_neg h4, if_neg h8, List.mem_singleton]
      rintro x rfl
      exact ⟨hA, Nat.le_refl _⟩
section
variable {gl : GL}
theorem wpar_k (o v : Int) (l : List Fm) (hA : okA (.mk o v l)) (hn : nN (.mk o v l) < 100000) (ih : ∀ g σ, CtrX (C gl) 34 [encF g] [] σ (g ∈ l) (.own σ.next (encFs (prtF g))) (σ.add (.tok 3 (prtF g).length))) (σ : Sto) :
    CallX (C gl) 34 [encF (.mk o v l)] σ (.own σ.next (encFs (prtF (.mk o v l)))) (σ.add (.tok 3 (prtF (.mk o v l)).length)) := by
  have hok := hA _ (nodes_self _)
  have hlen := par_len _ hA
  have hsA := shor_okA _ hA
  have hsub := fun g (hg : g ∈ l) => par_len g (okA_sub hA hg)
  rw [okNode_eq] at hok
  simp only [Bool.and_eq_true] at hok
  obtain ⟨⟨⟨ho1, ho2⟩, hal⟩, hv⟩ := hok
  replace ho1 := of_decide_eq_true ho1
  replace ho2 := of_decide_eq_true ho2
  replace hal := of_decide_eq_true hal
  have hcs : o = 0 ∨ o = 1 ∨ o = 2 ∨ o = 3 ∨ o = 4 ∨ o = 5 ∨ o = 6 ∨ o = 7 ∨ o = 8 ∨ o = 9 ∨ o = 10 ∨ o = 11 ∨ o = 12 ∨ o = 13 := by omega
  refine callX_of b34 (by simp [Tryd.ntmps34]) ?_
  refine W.of ?_
  rw [Tryd.ntmps34]
  simp only [toK, codeOf, Tryd.f34, go_sem, seval, reduceCtorEq]
  refine WK.reserve 3 ?_
  by_cases h4 : o = 4
  · subst h4
    obtain ⟨g, h, rfl⟩ := args2 (l := l) hal
    have i1 := hsub g (by simp)
    have i2 := hsub h (by simp)
    have e : prtF (.mk 4 v [g, h]) = prtF g ++ prtF h := rfl
    rw [e] at hlen ⊢
    rw [List.length_append] at hlen ⊢
    have H := And.intro @encFs_len @encFs_append'
    refine autoN ?_
    repeat' (first | (refine WK.draw (ops := #[_, _, _, _, _, _, _, _, _, _, _, _]) [dq 0 0, dq 0 0, dq 0 0, dq 0 0, dm, dq 0 0, dq 1 0, dq 1 0, dq 1 0, dm, dm, dq 0 0] mixed (by kernel_rfl) ?_; refine autoN ?_))
    try exact trivial
    refine WK.tokmove (es := 3) (es' := 3) (n := (prtF g).length + (prtF h).length) (xs := encFs (prtF g ++ prtF h)) 2 σ.next (σ.next + 2) (by decide) (by simp only [go_sem, seval, reduceCtorEq]) (by simp only [go_sem, seval, reduceCtorEq]) (by simp only [go_sem, seval, reduceCtorEq]) (by rw [encFs_len, List.length_append]) (by omega) (by omega) ?_
    have H := trivial
    refine autoA ?_
    repeat' (first | (refine WK.draw (ops := #[_, _, _, _, _, _, _, _, _, _, _, _]) [dq 0 0, dq 0 0, dq 0 0, dq 0 0, dm, dq 0 0, dq 1 0, dq 1 0, dq 1 0, dm, dm, dq 0 0] mixed (by kernel_rfl) ?_; refine autoA ?_))
    try exact trivial
    exact cutA
  by_cases h8 : o = 8 ∨ o = 10
  · obtain ⟨g, rfl⟩ : ∃ g, l = [g] := by rcases h8 with rfl | rfl <;> exact args1' (l := l) hal
    have i1 := hsub g (by simp)
    have e : prtF (.mk o v [g]) = (prtF g).map (fun x => .mk o 0 [x]) := by simp only [prtF, prtL, prtC, if_neg h4, if_pos h8, List.getD_cons_zero]
    rw [e] at hlen ⊢
    rw [List.length_map] at hlen ⊢
    have c4 : (o == 4) = false := beq_eq_false_iff_ne.2 h4
    have cc : ((o == 10) = false ∧ (o == 8) = true) ∨ ((o == 10) = true ∧ (o == 8) = false) := by rcases h8 with rfl | rfl <;> simp
    clear hcs hv hal ho1 ho2 h8 e
    rcases cc with ⟨c10, c8⟩ | ⟨c10, c8⟩
    all_goals
      have H := And.intro @encFs_len (And.intro @c4 (And.intro @c10 @c8))
      refine autoN ?_
      repeat' (first | (refine WK.draw (ops := #[_, _, _, _, _, _, _, _, _, _, _, _]) [dq 0 0, dq 0 0, dq 0 0, dq 0 0, dm, dq 0 0, dq 1 0, dq 1 0, dq 1 0, dm, dm, dq 0 0] mixed (by kernel_rfl) ?_; refine autoN ?_))
      try exact trivial
      refine WK.own0 3 3 (by decide) (by simp only [go_sem, seval, reduceCtorEq]) ?_
      refine rangeA ((prtF g).length) [1, 28] [3] (fun i => [.own (σ.next + 3) (encFs (((prtF g).take i).map (fun x => .mk o 0 [x])))]) (fun i => ((((σ.add (.tok 3 0)).add (.box [.int .i64 o, .int .i64 v, .list false (encFs [g])])).add (.tok 3 (prtF g).length)).add (.tok 3 i))) ?_ ?_
      · intro i hi
        have H := @hi
        refine autoA ?_
        repeat' (first | (refine WK.draw (ops := #[_, _, _, _, _, _, _, _, _, _, _, _]) [dq 0 0, dq 0 0, dq 0 0, dq 0 0, dm, dq 0 0, dq 1 0, dq 1 0, dq 1 0, dm, dm, dq 0 0] mixed (by kernel_rfl) ?_; refine autoA ?_))
        try exact trivial
        exact cutA
      · rw [List.take_length]
        have H := trivial
        refine autoN ?_
        repeat' (first | (refine WK.draw (ops := #[_, _, _, _, _, _, _, _, _, _, _, _]) [dq 0 0, dq 0 0, dq 0 0, dq 0 0, dm, dq 0 0, dq 1 0, dq 1 0, dq 1 0, dm, dm, dq 0 0] mixed (by kernel_rfl) ?_; refine autoN ?_))
        try exact trivial
        refine WK.tokmove (es := 3) (es' := 3) (n := (prtF g).length) (xs := encFs ((prtF g).map (fun x => .mk o 0 [x]))) 2 σ.next (σ.next + 3) (by decide) (by simp only [go_sem, seval, reduceCtorEq]) (by simp only [go_sem, seval, reduceCtorEq]) (by simp only [go_sem, seval, reduceCtorEq]) (by rw [encFs_len, List.length_map]) (by omega) (by omega) ?_
        have H := trivial
        refine autoA ?_
        repeat' (first | (refine WK.draw (ops := #[_, _, _, _, _, _, _, _, _, _, _, _]) [dq 0 0, dq 0 0, dq 0 0, dq 0 0, dm, dq 0 0, dq 1 0, dq 1 0, dq 1 0, dm, dm, dq 0 0] mixed (by kernel_rfl) ?_; refine autoA ?_))
        try exact trivial
        exact cutA
  · have e : prtF (.mk o v l) = [.mk o v l] := by simp only [prtF, prtC, if_neg h4, if_neg h8]
    rw [e] at hlen ⊢
    have c4 : (o == 4) = false := beq_eq_false_iff_ne.2 h4
    have c8 : (o == 8) = false := beq_eq_false_iff_ne.2 (fun e => h8 (.inl e))
    have c10 : (o == 10) = false := beq_eq_false_iff_ne.2 (fun e => h8 (.inr e))
    have H := And.intro @c4 (And.intro @c8 @c10)
    refine autoN ?_
    repeat' (first | (refine WK.draw (ops := #[_, _, _, _, _, _, _, _, _, _, _, _]) [dq 0 0, dq 0 0, dq 0 0, dq 0 0, dm, dq 0 0, dq 1 0, dq 1 0, dq 1 0, dm, dm, dq 0 0] mixed (by kernel_rfl) ?_; refine autoN ?_))
    try exact trivial
    refine WK.own (xs := [encF (.mk o v l)]) 2 3 (by decide) (by first | (simp only [go_sem, seval, reduceCtorEq]; done) | (simp only [go_sem, seval, reduceCtorEq]; rfl)) ?_
    have H := trivial
    refine autoN ?_
    repeat' (first | (refine WK.draw (ops := #[_, _, _, _, _, _, _, _, _, _, _, _]) [dq 0 0, dq 0 0, dq 0 0, dq 0 0, dm, dq 0 0, dq 1 0, dq 1 0, dq 1 0, dm, dm, dq 0 0] mixed (by kernel_rfl) ?_; refine autoN ?_))
    try exact trivial
    refine WK.tokmove (es := 3) (es' := 3) (n := 1) (xs := [encF (.mk o v l)]) 2 σ.next (σ.next + 2) (by decide) (by simp only [go_sem, seval, reduceCtorEq]) (by simp only [go_sem, seval, reduceCtorEq]) (by simp only [go_sem, seval, reduceCtorEq]) rfl (by omega) (by omega) ?_
    have H := trivial
    refine autoA ?_
    repeat' (first | (refine WK.draw (ops := #[_, _, _, _, _, _, _, _, _, _, _, _]) [dq 0 0, dq 0 0, dq 0 0, dq 0 0, dm, dq 0 0, dq 1 0, dq 1 0, dq 1 0, dm, dm, dq 0 0] mixed (by kernel_rfl) ?_; refine autoA ?_))
    try exact trivial
    exact ⟨⟨.refl _, Nat.lt_succ_self _⟩, cutA⟩
theorem wpar_ok (f : Fm) : okA f → nN f < 100000 → ∀ σ, CallX (C gl) 34 [encF f] σ (.own σ.next (encFs (prtF f))) (σ.add (.tok 3 (prtF f).length)) := by
  induction f using Fm.ind with
  | h o v l ih =>
    intro h hn σ
    exact wpar_k o v l h hn (fun g σ => ⟨fun hg => ih g hg (okA_sub h hg) (by have := nN_sub hg (o := o) (v := v); omega) σ⟩) σ
instance wpar_i (f : Fm) (σ : Sto) : CtrX (C gl) 34 [encF f] [] σ (okA f ∧ nN f < 100000) (.own σ.next (encFs (prtF f))) (σ.add (.tok 3 (prtF f).length)) := ⟨fun h => wpar_ok f h.1 h.2 σ⟩
end
end Go.Sx

set_option maxRecDepth 100000
set_option maxHeartbeats 4000000
set_option linter.unusedSimpArgs false
set_option linter.unusedVariables false
set_option linter.unnecessarySimpa false
namespace Go.Sx
open Go Go.Lg Go.Proofs
theorem b16 {gl : GL} : Body (C gl).P 16 Tryd.f16 (codeOf Tryd.f16) := ⟨Tryd.func16, by kernel_rfl, by kernel_rfl⟩
def sumN : List Fm → Nat
  | [] => 0
  | f :: l => nN f + sumN l
theorem sumN_append : ∀ a b : List Fm, sumN (a ++ b) = sumN a + sumN b
  | [], b => by simp [sumN]
  | f :: a, b => by rw [List.cons_append, sumN, sumN, sumN_append a b]; omega
theorem sumN_take {l : List Fm} {i : Nat} (h : i < l.length) : sumN (l.take (i + 1)) = sumN (l.take i) + nN l[i] := by
  rw [← List.take_append_getElem h, sumN_append]; simp [sumN]
theorem sumN_bd {k : Nat} : ∀ l : List Fm, (∀ g ∈ l, nN g ≤ k) → sumN l ≤ l.length * k
  | [], _ => Nat.zero_le _
  | f :: l, h => by
    have h1 := h f (by simp)
    have h2 := sumN_bd l fun g hg => h g (List.mem_cons_of_mem _ hg)
    rw [sumN, List.length_cons, Nat.succ_mul]; omega
theorem hand_len : ∀ (l : List Fm) (t : Nat), handT (fun t _ => t + 1) (fun _ => true) t l = t + l.length
  | [], t => rfl
  | x :: l, t => by rw [handT, if_pos rfl, hand_len l, List.length_cons]; omega
/-- What Parts answers. -/
def prtS (f : Fm) : List Fm × Int := if validF f 6 = true then (if sumN (prtF f) > 60 then [f] else prtF f, 0) else ([], 1)
section
variable {gl : GL}
theorem wParts_ok (har : gl.at' 0 = arityA) (f : Fm) (hs : Shrt f) : PCall (C gl) 16 [encF f] (.tup [.list false (encFs (prtS f).1), .int .i64 (prtS f).2]) := by
  refine pcallX (callX_of b16 (by simp [Tryd.ntmps16]) ?_) (by simp only [AllCl, cl_encF, and_true]) (by simp only [cl_tup, AllCl, cl_list, clE_encFs, cl_int, and_true])
  have hva : Ctr (C gl) 20 [encF f, .int .i64 6] True (.bool (validF f 6)) := ⟨fun _ => valid_ok har f hs 6⟩
  refine W.of ?_
  rw [Tryd.ntmps16]
  simp only [toK, codeOf, Tryd.f16, go_sem, seval, reduceCtorEq]
  cases hv : validF f 6 with
  | false =>
    have H := @hv
    refine autoA ?_
    try exact trivial
    first | exact cut_none _ | (refine finA (by first | (simp only [go_sem, seval, reduceCtorEq, prtS, hv, encFs, encF_fold, encF_fold0, Fm.eta, encFs_fold1, encFs_fold2, encFs_fold3]; done) | (simp only [go_sem, seval, reduceCtorEq, prtS, hv, encFs, encF_fold, encF_fold0, Fm.eta, encFs_fold1, encFs_fold2, encFs_fold3]; rfl)))
  | true =>
    have hA := (valid_both hv).2
    have hsh := (valid_both hv).1
    have hn : nN f ≤ 60 := ((validF_iff f 6).1 hv).2.2.1
    have hl := par_len f hA
    have hk := par_ok f hA
    have hbd : ∀ i, sumN ((prtF f).take i) ≤ 60 * 60 := fun i => by
      have h1 := sumN_bd (k := 60) ((prtF f).take i) fun g hg => by have := (hk g (List.mem_of_mem_take hg)).2; omega
      have h2 : ((prtF f).take i).length ≤ 60 := by rw [List.length_take]; omega
      have := Nat.mul_le_mul_right 60 h2
      omega
    have h60 := hbd (prtF f).length
    rw [List.take_length] at h60
    have H := And.intro @hv @encFs_len
    refine autoA ?_
    try exact trivial
    refine rangeA ((prtF f).length) [1, 4, 5, 13] [] (fun i => []) (fun i => (((Sto.none.add (.box [.int .i64 f.op, .int .i64 f.var, .list false (encFs f.args)])).add (.tok 3 (prtF f).length)).add (.box [.int .i64 (sumN ((prtF f).take i) : Int)]))) ?_ ?_
    · intro i hi
      have hx := hk _ (List.getElem_mem hi)
      have hb := hbd i
      have H := @hi
      refine autoA ?_
      try exact trivial
      refine WK.forNodesE 5 (prtF f)[i] (shrt_of_shor _ (shor_okA _ hx.1)) 4 (fun t : Nat => ((((Sto.none.add (.box [.int .i64 f.op, .int .i64 f.var, .list false (encFs f.args)])).add (.tok 3 (prtF f).length)).add (.box [.int .i64 ((sumN ((prtF f).take i) + t : Nat) : Int)])).add (.box [.int .i64 (prtF f)[i].op, .int .i64 (prtF f)[i].var, .list false (encFs (prtF f)[i].args)])).add (.box [.int .i64 (prtF f)[i].op, .int .i64 (prtF f)[i].var, .list false (encFs (prtF f)[i].args)])) (fun t _ => t + 1) (fun _ => true) 0 ?_ ?_ (fun t σ1 _ h _ => by cases h)
      · rintro L t x σ' ⟨p, q, hp, ht⟩ _ hn' hag hl
        have hlt : t < 60 := by
          rw [hand_len, Nat.zero_add] at ht
          have := congrArg List.length hp
          rw [List.length_append, List.length_cons] at this
          have := hx.2
          unfold nN at this hn
          omega
        have nz_0 : (0 = σ'.next) = False := by simp; omega
        have nx_0 : ∀ j, (0 = σ'.next + j) = False := fun j => by simp; omega
        have nz_1 : (1 = σ'.next) = False := by simp; omega
        have nx_1 : ∀ j, (1 = σ'.next + j) = False := fun j => by simp; omega
        have nz_2 : (2 = σ'.next) = False := by simp; omega
        have nx_2 : ∀ j, (2 = σ'.next + j) = False := fun j => by simp; omega
        have nz_3 : (3 = σ'.next) = False := by simp; omega
        have nx_3 : ∀ j, (3 = σ'.next + j) = False := fun j => by simp; omega
        have nz_4 : (4 = σ'.next) = False := by simp; omega
        have nx_4 : ∀ j, (4 = σ'.next + j) = False := fun j => by simp; omega
        have nz_5 : (5 = σ'.next) = False := by simp; omega
        have nx_5 : ∀ j, (5 = σ'.next + j) = False := fun j => by simp; omega
        simp only [toK, bindP, go_sem, seval, reduceCtorEq]
        have H := And.intro @nz_0 (And.intro @nx_0 (And.intro @nz_1 (And.intro @nx_1 (And.intro @nz_2 (And.intro @nx_2 (And.intro @nz_3 (And.intro @nx_3 (And.intro @nz_4 (And.intro @nx_4 (And.intro @nz_5 (And.intro @nx_5 (And.intro @hag @hl))))))))))))
        refine autoW ?_
        try exact trivial
        exact bodyA
      · rintro t σ1 rfl _ hn1 ha
        rw [hand_len, Nat.zero_add] at ha
        have e := sumN_take hi
        unfold nN at e
        simp only [go_sem, seval, reduceCtorEq]
        rw [e]
        exact cut_agree hn1 ha
    · rw [List.take_length]
      cases h7 : decide ((sumN (prtF f) : Int) > 60) with
      | true =>
        have h8 : (sumN (prtF f) > 60) = True := by have := of_decide_eq_true h7; simp; omega
        have H := @h7
        refine autoA ?_
        try exact trivial
        first | exact cut_none _ | (refine finA (by first | (simp only [go_sem, seval, reduceCtorEq, prtS, hv, h8, encFs, encF_fold, encF_fold0, Fm.eta, encFs_fold1, encFs_fold2, encFs_fold3]; done) | (simp only [go_sem, seval, reduceCtorEq, prtS, hv, h8, encFs, encF_fold, encF_fold0, Fm.eta, encFs_fold1, encFs_fold2, encFs_fold3]; rfl)))
      | false =>
        have h8 : (sumN (prtF f) > 60) = False := by have := of_decide_eq_false h7; simp; omega
        have H := @h7
        refine autoA ?_
        try exact trivial
        first | exact cut_none _ | (refine finA (by first | (simp only [go_sem, seval, reduceCtorEq, prtS, hv, h8, encF_fold, encF_fold0, Fm.eta, encFs_fold1, encFs_fold2, encFs_fold3]; done) | (simp only [go_sem, seval, reduceCtorEq, prtS, hv, h8, encF_fold, encF_fold0, Fm.eta, encFs_fold1, encFs_fold2, encFs_fold3]; rfl)))
end
end Go.Sx
