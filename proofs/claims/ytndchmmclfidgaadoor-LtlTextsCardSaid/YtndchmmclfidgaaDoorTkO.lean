import Derived.Test.YtndchmmclfidgaaDoorTkN
import Derived.Test.YtndchmmclfidgaaDoorLgAv
set_option maxRecDepth 100000
set_option maxHeartbeats 4000000
set_option linter.unusedSimpArgs false
set_option linter.unusedVariables false
set_option linter.unnecessarySimpa false
namespace Go.Sx
open Go Go.Lg Go.Proofs
theorem b105 {gl : GL} : Body (C gl).P 105 Tryd.f105 (codeOf Tryd.f105) := ⟨Tryd.func105, by kernel_rfl, by kernel_rfl⟩

/-! ## The reference's sizes -/
def s40 (x : Int) : Int := if 1099511627776 < x then 1099511627776 else x
def sizC (o : Int) (P N : List Int) : Int × Int :=
  if o = 0 ∨ o = 1 then (1, 1)
  else if o = 2 then (1, 2)
  else if o = 3 then (N.getD 0 0, P.getD 0 0)
  else if o = 6 then (1 + N.getD 0 0 + P.getD 1 0, 1 + P.getD 0 0 + N.getD 1 0)
  else if o = 7 then (3 + P.getD 0 0 + P.getD 1 0 + N.getD 0 0 + N.getD 1 0, 3 + P.getD 0 0 + N.getD 1 0 + N.getD 0 0 + P.getD 1 0)
  else if o = 13 then (1 + P.getD 0 0 + P.getD 1 0, 3 + P.getD 0 0 + N.getD 1 0 + N.getD 0 0 + N.getD 1 0)
  else (1 + P.sum, 1 + N.sum)
mutual
def sizF : Fm → Int × Int
  | .mk o _ l => (s40 (sizC o (sizP l) (sizN l)).1, s40 (sizC o (sizP l) (sizN l)).2)
def sizP : List Fm → List Int
  | [] => []
  | f :: l => (sizF f).1 :: sizP l
def sizN : List Fm → List Int
  | [] => []
  | f :: l => (sizF f).2 :: sizN l
end
theorem sizP_map : ∀ l : List Fm, sizP l = l.map fun f => (sizF f).1
  | [] => rfl
  | f :: l => by rw [sizP, sizP_map l]; rfl
theorem sizN_map : ∀ l : List Fm, sizN l = l.map fun f => (sizF f).2
  | [] => rfl
  | f :: l => by rw [sizN, sizN_map l]; rfl
theorem sum_nn : ∀ l : List Int, (∀ x ∈ l, 0 ≤ x) → 0 ≤ l.sum
  | [], _ => by simp
  | x :: l, h => by
    have h1 := h x List.mem_cons_self
    have h2 := sum_nn l fun y hy => h y (List.mem_cons_of_mem _ hy)
    simp only [List.sum_cons]; omega
theorem sum_tk (f : Fm → Int) (l : List Fm) (i : Nat) (h : i < l.length) : ((l.take (i + 1)).map f).sum = ((l.take i).map f).sum + f l[i] := by
  rw [takeM h, List.sum_append]; simp
theorem sum_tb (f : Fm → Int) (l : List Fm) (i : Nat) (h2 : l.length ≤ 2) (hf : ∀ g, 0 ≤ f g ∧ f g ≤ 1099511627776) : 0 ≤ ((l.take i).map f).sum ∧ ((l.take i).map f).sum ≤ 2 * 1099511627776 := by
  match l, h2 with
  | [], _ => simp
  | [a], _ => have := hf a; cases i <;> simp <;> omega
  | [a, b], _ =>
    have := hf a
    have := hf b
    match i with
    | 0 => simp
    | 1 => simp; omega
    | i + 2 => simp; omega
theorem sizC_nn (o : Int) (P N : List Int) (hP : ∀ x ∈ P, 0 ≤ x) (hN : ∀ x ∈ N, 0 ≤ x) : 0 ≤ (sizC o P N).1 ∧ 0 ≤ (sizC o P N).2 := by
  have hd : ∀ (l : List Int), (∀ x ∈ l, 0 ≤ x) → ∀ i, 0 ≤ l.getD i 0 := by
    intro l hl i
    rw [List.getD_eq_getElem?_getD]
    cases e : l[i]? with
    | none => simp
    | some c => exact hl c (List.mem_of_getElem? e)
  have p0 := hd P hP 0
  have p1 := hd P hP 1
  have n0 := hd N hN 0
  have n1 := hd N hN 1
  have hs := sum_nn P hP
  have ht := sum_nn N hN
  unfold sizC
  repeat' split
  all_goals (simp only; omega)
theorem s40_le {x : Int} (h : 0 ≤ x) : 0 ≤ s40 x ∧ s40 x ≤ 1099511627776 := by unfold s40; split <;> omega
theorem sizF_le (f : Fm) : (0 ≤ (sizF f).1 ∧ (sizF f).1 ≤ 1099511627776) ∧ (0 ≤ (sizF f).2 ∧ (sizF f).2 ≤ 1099511627776) := by
  induction f using Fm.ind with
  | h o v l ih =>
    have := sizC_nn o (sizP l) (sizN l) (by rw [sizP_map]; intro x hx; obtain ⟨g, hg, rfl⟩ := List.mem_map.1 hx; exact (ih g hg).1.1) (by rw [sizN_map]; intro x hx; obtain ⟨g, hg, rfl⟩ := List.mem_map.1 hx; exact (ih g hg).2.1)
    simp only [sizF]
    exact ⟨s40_le this.1, s40_le this.2⟩
section
variable {gl : GL}
theorem siz_k (n o v : Int) (l : List Fm) (hok : okNode n (.mk o v l) = true) (hlen : l.length < 1000000) (ih : ∀ g, Ctr (C gl) 105 [encF g] (g ∈ l) (.tup [.int .i64 (sizF g).1, .int .i64 (sizF g).2])) :
    PCall (C gl) 105 [encF (.mk o v l)] (.tup [.int .i64 (sizF (.mk o v l)).1, .int .i64 (sizF (.mk o v l)).2]) := by
  refine pcallX (callX_of b105 (by simp [Tryd.ntmps105]) ?_) (by simp only [AllCl, cl_encF, and_true]) (by simp only [cl_tup, AllCl, cl_int, and_true])
  rw [okNode_eq] at hok
  simp only [Bool.and_eq_true] at hok
  obtain ⟨⟨⟨ho1, ho2⟩, hal⟩, hv⟩ := hok
  replace ho1 := of_decide_eq_true ho1
  replace ho2 := of_decide_eq_true ho2
  replace hal := of_decide_eq_true hal
  have hcs : o = 0 ∨ o = 1 ∨ o = 2 ∨ o = 3 ∨ o = 6 ∨ o = 7 ∨ o = 13 ∨ ¬ (o = 0 ∨ o = 1 ∨ o = 2 ∨ o = 3 ∨ o = 6 ∨ o = 7 ∨ o = 13) := by omega
  refine W.of ?_
  rw [Tryd.ntmps105]
  simp only [toK, codeOf, Tryd.f105, go_sem, seval, reduceCtorEq]
  have H := trivial
  refine autoA ?_
  repeat' (first | (refine WK.draw0 (ops := #[_, _, _, _, _, _, _, _]) mixed (by kernel_rfl) ?_; refine autoA ?_) | (refine WK.draw0 (ops := #[_, _, _, _, _, _, _, _, _, _, _, _, _, _, _, _, _, _]) mixed (by kernel_rfl) ?_; refine autoA ?_) | (refine WK.draw0 (ops := #[_, _, _, _, _, _, _, _, _, _, _, _, _, _, _, _, _, _, _, _, _, _, _, _, _, _, _, _, _, _, _, _, _, _]) mixed (by kernel_rfl) ?_; refine autoA ?_) | (refine WK.draw0 (ops := #[_, _, _, _, _, _, _, _, _, _, _, _, _, _, _, _, _, _, _, _, _, _, _, _, _, _]) mixed (by kernel_rfl) ?_; refine autoA ?_) | (refine WK.draw0 (ops := #[_, _, _, _, _, _, _, _, _, _, _, _, _, _]) mixed (by kernel_rfl) ?_; refine autoA ?_))
  try exact trivial
  refine WK.own0 4 1 (by decide) (by simp only [go_sem, seval, reduceCtorEq]) ?_
  refine WK.own0 5 1 (by decide) (by simp only [go_sem, seval, reduceCtorEq]) ?_
  simp only [go_sem, seval, reduceCtorEq]
  refine rangeA (l.length) [1, 2, 3, 12] [4, 5] (fun i => [.own 1 ((l.take i).map fun f => .int .i64 (sizF f).1), .own 2 ((l.take i).map fun f => .int .i64 (sizF f).2)]) (fun i => ((Sto.none.add (.box [.int .i64 o, .int .i64 v, .list false (encFs l)])).add (.tok 1 i)).add (.tok 1 i)) ?_ ?_
  · intro i hi
    have H := @hi
    refine autoA ?_
    repeat' (first | (refine WK.draw0 (ops := #[_, _, _, _, _, _, _, _]) mixed (by kernel_rfl) ?_; refine autoA ?_) | (refine WK.draw0 (ops := #[_, _, _, _, _, _, _, _, _, _, _, _, _, _, _, _, _, _]) mixed (by kernel_rfl) ?_; refine autoA ?_) | (refine WK.draw0 (ops := #[_, _, _, _, _, _, _, _, _, _, _, _, _, _, _, _, _, _, _, _, _, _, _, _, _, _, _, _, _, _, _, _, _, _]) mixed (by kernel_rfl) ?_; refine autoA ?_) | (refine WK.draw0 (ops := #[_, _, _, _, _, _, _, _, _, _, _, _, _, _, _, _, _, _, _, _, _, _, _, _, _, _]) mixed (by kernel_rfl) ?_; refine autoA ?_) | (refine WK.draw0 (ops := #[_, _, _, _, _, _, _, _, _, _, _, _, _, _]) mixed (by kernel_rfl) ?_; refine autoA ?_))
    try exact trivial
    exact cutA
  · simp only [go_sem, seval, reduceCtorEq, List.take_length]
    rcases hcs with rfl | rfl | rfl | rfl | rfl | rfl | rfl | hd
    rotate_right
    · have e0 : (o == 0) = false := by simp; omega
      have e1 : (o == 1) = false := by simp; omega
      have e2 : (o == 2) = false := by simp; omega
      have e3 : (o == 3) = false := by simp; omega
      have e6 : (o == 6) = false := by simp; omega
      have e7 : (o == 7) = false := by simp; omega
      have e13 : (o == 13) = false := by simp; omega
      have hl2 : l.length ≤ 2 := by
        rcases arL_nat o.toNat (by omega) with h | h | h <;> (rw [h] at hal; omega)
      have hb1 : ∀ i, 0 ≤ ((l.take i).map fun f => (sizF f).1).sum ∧ ((l.take i).map fun f => (sizF f).1).sum ≤ 2 * 1099511627776 := fun i => sum_tb _ l i hl2 fun f => (sizF_le f).1
      have hb2 : ∀ i, 0 ≤ ((l.take i).map fun f => (sizF f).2).sum ∧ ((l.take i).map fun f => (sizF f).2).sum ≤ 2 * 1099511627776 := fun i => sum_tb _ l i hl2 fun f => (sizF_le f).2
      have H := And.intro @e0 (And.intro @e1 (And.intro @e2 (And.intro @e3 (And.intro @e6 (And.intro @e7 @e13)))))
      refine autoA ?_
      repeat' (first | (refine WK.draw0 (ops := #[_, _, _, _, _, _, _, _]) mixed (by kernel_rfl) ?_; refine autoA ?_) | (refine WK.draw0 (ops := #[_, _, _, _, _, _, _, _, _, _, _, _, _, _, _, _, _, _]) mixed (by kernel_rfl) ?_; refine autoA ?_) | (refine WK.draw0 (ops := #[_, _, _, _, _, _, _, _, _, _, _, _, _, _, _, _, _, _, _, _, _, _, _, _, _, _, _, _, _, _, _, _, _, _]) mixed (by kernel_rfl) ?_; refine autoA ?_) | (refine WK.draw0 (ops := #[_, _, _, _, _, _, _, _, _, _, _, _, _, _, _, _, _, _, _, _, _, _, _, _, _, _]) mixed (by kernel_rfl) ?_; refine autoA ?_) | (refine WK.draw0 (ops := #[_, _, _, _, _, _, _, _, _, _, _, _, _, _]) mixed (by kernel_rfl) ?_; refine autoA ?_))
      try exact trivial
      refine WK.rangeX (l.length) [1, 4, 5] [2, 3] (fun i => [.int .i64 (1 + ((l.take i).map fun f => (sizF f).1).sum), .int .i64 (1 + ((l.take i).map fun f => (sizF f).2).sum)]) (fun i => ((Sto.none.add (.box [.int .i64 o, .int .i64 v, .list false (encFs l)])).add (.tok 1 l.length)).add (.tok 1 l.length)) (by omega) (by decide) (by simp only [go_sem, seval, reduceCtorEq, e0, e1, e2, e3, e6, e7, e13, List.map_nil, List.sum_nil, Int.add_zero]) (by simp only [go_sem, seval, reduceCtorEq, e0, e1, e2, e3, e6, e7, e13, List.map_nil, List.sum_nil, Int.add_zero]) (by simp only [go_sem, seval, reduceCtorEq, e0, e1, e2, e3, e6, e7, e13, List.map_nil, List.sum_nil, Int.add_zero, List.take_zero]) (by first | rfl | (simp only [go_sem, seval, reduceCtorEq, e0, e1, e2, e3, e6, e7, e13, List.map_nil, List.sum_nil, Int.add_zero]; done) | (refine Sto.ext' (by simp only [go_sem, seval, reduceCtorEq, e0, e1, e2, e3, e6, e7, e13, List.map_nil, List.sum_nil, Int.add_zero]) (fun i => ?_); simp only [go_sem, seval, reduceCtorEq, e0, e1, e2, e3, e6, e7, e13, List.map_nil, List.sum_nil, Int.add_zero]; repeat' split; all_goals (first | rfl | omega | simp_all))) ?_ ?_
      · intro i hi
        have g1 := hb1 i
        have g2 := hb2 i
        have g3 := sizF_le l[i]
        have q1 := map_getT (fun f : Fm => AV.int .i64 (sizF f).1) l i hi
        have q2 := map_getT (fun f : Fm => AV.int .i64 (sizF f).2) l i hi
        have q3 := sum_tk (fun f : Fm => (sizF f).1) l i hi
        have q4 := sum_tk (fun f : Fm => (sizF f).2) l i hi
        have q5 : (i : Int) < (l.length : Int) := by omega
        have H := And.intro @e0 (And.intro @e1 (And.intro @e2 (And.intro @e3 (And.intro @e6 (And.intro @e7 (And.intro @e13 (And.intro @q1 (And.intro @q2 (And.intro @q3 (And.intro @q4 (And.intro @q5 @hi)))))))))))
        refine autoW ?_
        repeat' (first | (refine WK.draw0 (ops := #[_, _, _, _, _, _, _, _]) mixed (by kernel_rfl) ?_; refine autoW ?_) | (refine WK.draw0 (ops := #[_, _, _, _, _, _, _, _, _, _, _, _, _, _, _, _, _, _]) mixed (by kernel_rfl) ?_; refine autoW ?_) | (refine WK.draw0 (ops := #[_, _, _, _, _, _, _, _, _, _, _, _, _, _, _, _, _, _, _, _, _, _, _, _, _, _, _, _, _, _, _, _, _, _]) mixed (by kernel_rfl) ?_; refine autoW ?_) | (refine WK.draw0 (ops := #[_, _, _, _, _, _, _, _, _, _, _, _, _, _, _, _, _, _, _, _, _, _, _, _, _, _]) mixed (by kernel_rfl) ?_; refine autoW ?_) | (refine WK.draw0 (ops := #[_, _, _, _, _, _, _, _, _, _, _, _, _, _]) mixed (by kernel_rfl) ?_; refine autoW ?_))
        try exact trivial
        simp [List.sum_append, Int.add_assoc]
      · have g1 := hb1 l.length
        have g2 := hb2 l.length
        rw [List.take_length] at g1 g2
        have hd0 : ¬ (o = 0 ∨ o = 1) ∧ o ≠ 2 ∧ o ≠ 3 ∧ o ≠ 6 ∧ o ≠ 7 ∧ o ≠ 13 := by omega
        simp only [go_sem, seval, reduceCtorEq, e0, e1, e2, e3, e6, e7, e13, List.take_length]
        have H := And.intro @e0 (And.intro @e1 (And.intro @e2 (And.intro @e3 (And.intro @e6 (And.intro @e7 @e13)))))
        refine autoW ?_
        repeat' (first | (refine WK.draw0 (ops := #[_, _, _, _, _, _, _, _]) mixed (by kernel_rfl) ?_; refine autoW ?_) | (refine WK.draw0 (ops := #[_, _, _, _, _, _, _, _, _, _, _, _, _, _, _, _, _, _]) mixed (by kernel_rfl) ?_; refine autoW ?_) | (refine WK.draw0 (ops := #[_, _, _, _, _, _, _, _, _, _, _, _, _, _, _, _, _, _, _, _, _, _, _, _, _, _, _, _, _, _, _, _, _, _]) mixed (by kernel_rfl) ?_; refine autoW ?_) | (refine WK.draw0 (ops := #[_, _, _, _, _, _, _, _, _, _, _, _, _, _, _, _, _, _, _, _, _, _, _, _, _, _]) mixed (by kernel_rfl) ?_; refine autoW ?_) | (refine WK.draw0 (ops := #[_, _, _, _, _, _, _, _, _, _, _, _, _, _]) mixed (by kernel_rfl) ?_; refine autoW ?_))
        try exact trivial
        first | exact cut_none _ | (refine finA (by first | (simp only [go_sem, seval, reduceCtorEq, e0, e1, e2, e3, e6, e7, e13, sizF, sizP_map, sizN_map, sizC, s40, hd0, if_false, encF_fold, encF_fold0, Fm.eta, encFs_fold1, encFs_fold2, encFs_fold3]; done) | (simp only [go_sem, seval, reduceCtorEq, e0, e1, e2, e3, e6, e7, e13, sizF, sizP_map, sizN_map, sizC, s40, hd0, if_false, encF_fold, encF_fold0, Fm.eta, encFs_fold1, encFs_fold2, encFs_fold3]; rfl)))
    all_goals rcases l with _ | ⟨g, _ | ⟨h, _ | ⟨x, l⟩⟩⟩
    all_goals try (exfalso; simp [arityL] at hal; done)
    all_goals try (exfalso; simp [arityL] at hal; omega)
    all_goals try have bg := sizF_le g
    all_goals try have bh := sizF_le h
    all_goals
      have H := trivial
      refine autoW ?_
      repeat' (first | (refine WK.draw0 (ops := #[_, _, _, _, _, _, _, _]) mixed (by kernel_rfl) ?_; refine autoW ?_) | (refine WK.draw0 (ops := #[_, _, _, _, _, _, _, _, _, _, _, _, _, _, _, _, _, _]) mixed (by kernel_rfl) ?_; refine autoW ?_) | (refine WK.draw0 (ops := #[_, _, _, _, _, _, _, _, _, _, _, _, _, _, _, _, _, _, _, _, _, _, _, _, _, _, _, _, _, _, _, _, _, _]) mixed (by kernel_rfl) ?_; refine autoW ?_) | (refine WK.draw0 (ops := #[_, _, _, _, _, _, _, _, _, _, _, _, _, _, _, _, _, _, _, _, _, _, _, _, _, _]) mixed (by kernel_rfl) ?_; refine autoW ?_) | (refine WK.draw0 (ops := #[_, _, _, _, _, _, _, _, _, _, _, _, _, _]) mixed (by kernel_rfl) ?_; refine autoW ?_))
      try exact trivial
    all_goals
      first | exact cut_none _ | (refine finA (by first | (simp only [go_sem, seval, reduceCtorEq, sizF, sizP, sizN, sizC, s40, encF_fold, encF_fold0, Fm.eta, encFs_fold1, encFs_fold2, encFs_fold3]; done) | (simp only [go_sem, seval, reduceCtorEq, sizF, sizP, sizN, sizC, s40, encF_fold, encF_fold0, Fm.eta, encFs_fold1, encFs_fold2, encFs_fold3]; rfl)))
end
end Go.Sx
