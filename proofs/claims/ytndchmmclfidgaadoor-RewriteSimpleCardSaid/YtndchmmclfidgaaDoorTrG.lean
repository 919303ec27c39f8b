import Derived.Test.YtndchmmclfidgaaDoorTrF
import Derived.Test.YtndchmmclfidgaaDoorLgAv
set_option maxRecDepth 100000
set_option maxHeartbeats 4000000
set_option linter.unusedSimpArgs false
set_option linter.unusedVariables false
set_option linter.unnecessarySimpa false
namespace Go.Sx
open Go Go.Lg Go.Proofs
theorem b128 {gl : GL} : Body (C gl).P 128 Tryd.f128 (codeOf Tryd.f128) := ⟨Tryd.func128, by kernel_rfl, by kernel_rfl⟩
theorem b69 {gl : GL} : Body (C gl).P 69 Tryd.f69 (codeOf Tryd.f69) := ⟨Tryd.func69, by kernel_rfl, by kernel_rfl⟩
def szC (o n0 n1 : Int) : Int :=
  if o = 1 then 2
  else if o = 5 ∨ o = 12 then 4 + n0 + n1
  else if o = 6 then 3 + n0 + n1
  else if o = 7 then 7 + 2 * n0 + 2 * n1
  else if o = 9 then 2 + n0
  else if o = 10 then 4 + n0
  else if o = 13 then 6 + n0 + 2 * n1
  else 1 + n0 + n1
mutual
def szU : Fm → Int
  | .mk o _ l => if 61 < szC o ((szL l).getD 0 0) ((szL l).getD 1 0) then 61 else szC o ((szL l).getD 0 0) ((szL l).getD 1 0)
def szL : List Fm → List Int
  | [] => []
  | f :: l => szU f :: szL l
end
theorem arrC_eq (q : Nat → Int) (i : Nat) : arrC q i = [.int .i64 (if 0 < i then q 0 else 0), .int .i64 (if 1 < i then q 1 else 0)] := (rfl)
/-- The size is that of the formula, capped. -/
theorem szU_nN (f : Fm) : okA f → szU f = min (nN (untF f) : Int) 61 ∧ (∀ g ∈ f.args, nN (untF g) ≤ nN (untF f)) := by
  induction f using Fm.ind with
  | h o v l ih =>
    intro hA
    have hok := hA _ (nodes_self _)
    rw [okNode_eq] at hok
    simp only [Bool.and_eq_true] at hok
    obtain ⟨⟨⟨ho1, ho2⟩, hal⟩, hv⟩ := hok
    replace ho1 := of_decide_eq_true ho1
    replace ho2 := of_decide_eq_true ho2
    replace hal := of_decide_eq_true hal
    have hcs : o = 0 ∨ o = 1 ∨ o = 2 ∨ o = 3 ∨ o = 4 ∨ o = 5 ∨ o = 6 ∨ o = 7 ∨ o = 8 ∨ o = 9 ∨ o = 10 ∨ o = 11 ∨ o = 12 ∨ o = 13 := by omega
    have ih' := fun g hg => (ih g hg (okA_sub hA hg)).1
    have pp := nN_pos
    clear hv ho1 ho2 ih hA
    rcases hcs with rfl | rfl | rfl | rfl | rfl | rfl | rfl | rfl | rfl | rfl | rfl | rfl | rfl | rfl
    all_goals rcases l with _ | ⟨g, _ | ⟨h, _ | ⟨x, l⟩⟩⟩
    all_goals try (exfalso; simp [arityL] at hal; done)
    all_goals try (exfalso; simp [arityL] at hal; omega)
    all_goals try have hg := ih' g (by simp)
    all_goals try have pg := pp (untF g)
    all_goals try have hh := ih' h (by simp)
    all_goals try have ph := pp (untF h)
    all_goals simp only [szU, szL, szC, untF, untL, untC, fno, fand, fup, fz, nN_0, nN_1, nN_2, List.getD_cons_zero, List.getD_cons_succ, List.getD_nil, Int.reduceEq, or_self, or_true, true_or, or_false, false_or, if_true, if_false, fm_args, List.mem_cons, List.not_mem_nil, forall_eq_or_imp, forall_eq, false_implies, implies_true, and_true]
    all_goals (try simp only [c61_min])
    all_goals first | omega | (refine ⟨by omega, ?_⟩; first | omega | (intro x hx; exact hx.elim) | (refine ⟨by omega, by omega⟩) | simp_all)
theorem szU_bd (f : Fm) (h : okA f) : 0 ≤ szU f ∧ szU f ≤ 61 := by
  have := (szU_nN f h).1
  omega
section
variable {gl : GL}
theorem wsize_k (o v : Int) (l : List Fm) (hA : okA (.mk o v l)) (ih : ∀ g, Ctr (C gl) 128 [encF g] (g ∈ l) (.int .i64 (szU g))) : PCall (C gl) 128 [encF (.mk o v l)] (.int .i64 (szU (.mk o v l))) := by
  have hok := hA _ (nodes_self _)
  rw [okNode_eq] at hok
  simp only [Bool.and_eq_true] at hok
  obtain ⟨⟨⟨ho1, ho2⟩, hal⟩, hv⟩ := hok
  replace ho1 := of_decide_eq_true ho1
  replace ho2 := of_decide_eq_true ho2
  replace hal := of_decide_eq_true hal
  have hcs : o = 0 ∨ o = 1 ∨ o = 2 ∨ o = 3 ∨ o = 4 ∨ o = 5 ∨ o = 6 ∨ o = 7 ∨ o = 8 ∨ o = 9 ∨ o = 10 ∨ o = 11 ∨ o = 12 ∨ o = 13 := by omega
  have hbd := fun g hg => szU_bd g (okA_sub hA (g := g) hg)
  have hl2 : l.length ≤ 2 := by
    rcases arL_nat o.toNat (by omega) with h | h | h <;> (rw [h] at hal; omega)
  refine pcallX (callX_of b128 (by simp [Tryd.ntmps128]) ?_) (by simp only [AllCl, cl_encF, and_true]) (.int _ _)
  refine W.of ?_
  rw [Tryd.ntmps128]
  simp only [toK, codeOf, Tryd.f128, go_sem, seval, reduceCtorEq]
  have H := trivial
  refine autoA ?_
  try exact trivial
  have H := @arrC_eq
  refine rangeA (l.length) [1, 3, 8] [] (fun i => []) (fun i => ((Sto.none.add (.box [.int .i64 o, .int .i64 v, .list false (encFs l)])).add (.box (arrC (fun j => (l.map szU).getD j 0) i)))) ?_ ?_
  · intro i hi
    have c1 := arrC_wr (fun j => (l.map szU).getD j 0) i (by omega)
    have n1 : ∀ q i, (arrC q i).length = 2 := fun _ _ => rfl
    have h2 : (i : Int) < 2 := by omega
    have cg : (l.map szU).getD i 0 = szU l[i] := by rw [List.getD_eq_getElem?_getD, List.getElem?_map, List.getElem?_eq_getElem hi]; rfl
    have H := And.intro @hi (And.intro @n1 (And.intro @h2 @belL_arrC))
    refine autoA ?_
    try exact trivial
    simp only [wr, List.length_cons, List.length_nil, Nat.zero_add] at c1
    rw [cg] at c1
    rw [c1]
    exact cutA
  · clear hA hv ho1 ho2
    rcases hcs with rfl | rfl | rfl | rfl | rfl | rfl | rfl | rfl | rfl | rfl | rfl | rfl | rfl | rfl
    all_goals rcases l with _ | ⟨g, _ | ⟨h, _ | ⟨x, l⟩⟩⟩
    all_goals try (exfalso; simp [arityL] at hal; done)
    all_goals try (exfalso; simp [arityL] at hal; omega)
    all_goals try have bg := hbd g (by simp)
    all_goals try have bh := hbd h (by simp)
    all_goals
      simp only [go_sem, seval, reduceCtorEq, List.take_length, arrC_eq, List.length_cons, List.length_nil, List.map_cons, List.map_nil, List.getD_nil]
      have H := trivial
      refine autoW ?_
      try exact trivial
    all_goals refine ⟨?_, cut_none _⟩
    all_goals simp [szU, szL, szC]
theorem wsize_ok (f : Fm) : okA f → PCall (C gl) 128 [encF f] (.int .i64 (szU f)) := by
  induction f using Fm.ind with
  | h o v l ih =>
    intro h
    exact wsize_k o v l h fun g => ⟨fun hg => ih g hg (okA_sub h hg)⟩
instance wsize_i (f : Fm) : Ctr (C gl) 128 [encF f] (okA f) (.int .i64 (szU f)) := ⟨wsize_ok f⟩
/-- What Until answers. -/
def untS (f : Fm) : Fm × Int := if validF f 6 = true then (if nN (untF f) > 60 then (fz, 3) else (untF f, 0)) else (fz, 1)
theorem wUntil_ok (har : gl.at' 0 = arityA) (f : Fm) (hs : Shrt f) : PCall (C gl) 69 [encF f] (.tup [encF (untS f).1, .int .i64 (untS f).2]) := by
  refine pcallX (callX_of b69 (by simp [Tryd.ntmps69]) ?_) (by simp only [AllCl, cl_encF, and_true]) (by simp only [cl_tup, AllCl, cl_encF, cl_int, and_true])
  have hva : Ctr (C gl) 57 [encF f, .int .i64 6] True (.bool (validF f 6)) := ⟨fun _ => valid_ok har f hs 6⟩
  refine W.of ?_
  rw [Tryd.ntmps69]
  simp only [toK, codeOf, Tryd.f69, go_sem, seval, reduceCtorEq]
  cases hv : validF f 6 with
  | false =>
    have H := @hv
    refine autoA ?_
    try exact trivial
    first | exact cut_none _ | (refine finA (by first | (simp only [go_sem, seval, reduceCtorEq, untS, hv, fz, encF_fold, encF_fold0, Fm.eta, encFs_fold1, encFs_fold2, encFs_fold3]; done) | (simp only [go_sem, seval, reduceCtorEq, untS, hv, fz, encF_fold, encF_fold0, Fm.eta, encFs_fold1, encFs_fold2, encFs_fold3]; rfl)))
  | true =>
    have hA := (valid_both hv).2
    have hsz := (szU_nN f hA).1
    cases h6 : decide (szU f > 60) with
    | true =>
      have h7 : (nN (untF f) > 60) = True := by have := of_decide_eq_true h6; simp; omega
      have H := And.intro @hv @h6
      refine autoA ?_
      try exact trivial
      first | exact cut_none _ | (refine finA (by first | (simp only [go_sem, seval, reduceCtorEq, untS, hv, h7, fz, encF_fold, encF_fold0, Fm.eta, encFs_fold1, encFs_fold2, encFs_fold3]; done) | (simp only [go_sem, seval, reduceCtorEq, untS, hv, h7, fz, encF_fold, encF_fold0, Fm.eta, encFs_fold1, encFs_fold2, encFs_fold3]; rfl)))
    | false =>
      have h7 : (nN (untF f) > 60) = False := by have := of_decide_eq_false h6; simp; omega
      have H := And.intro @hv @h6
      refine autoA ?_
      try exact trivial
      first | exact cut_none _ | (refine finA (by first | (simp only [go_sem, seval, reduceCtorEq, untS, hv, h7, encF_fold, encF_fold0, Fm.eta, encFs_fold1, encFs_fold2, encFs_fold3]; done) | (simp only [go_sem, seval, reduceCtorEq, untS, hv, h7, encF_fold, encF_fold0, Fm.eta, encFs_fold1, encFs_fold2, encFs_fold3]; rfl)))
end
end Go.Sx
