import Derived.Test.YtndchmmclfidgaaDoorTkH
import Derived.Test.YtndchmmclfidgaaDoorLgAv
import Derived.Test.YtndchmmclfidgaaDoorSxJ
set_option maxRecDepth 100000
set_option maxHeartbeats 4000000
set_option linter.unusedSimpArgs false
set_option linter.unusedVariables false
set_option linter.unnecessarySimpa false
namespace Go.Sx
open Go Go.Lg Go.Proofs
theorem b84 {gl : GL} : Body (C gl).P 84 Tryd.f84 (codeOf Tryd.f84) := ⟨Tryd.func84, by kernel_rfl, by kernel_rfl⟩
theorem b106 {gl : GL} : Body (C gl).P 106 Tryd.f106 (codeOf Tryd.f106) := ⟨Tryd.func106, by kernel_rfl, by kernel_rfl⟩
theorem b107 {gl : GL} : Body (C gl).P 107 Tryd.f107 (codeOf Tryd.f107) := ⟨Tryd.func107, by kernel_rfl, by kernel_rfl⟩
section
variable {gl : GL}
theorem rof_ok (fl : Bool) (o : Int) (l : List Fm) : PCall (C gl) 84 [.int .i64 o, .list fl (encFs l)] (encF (.mk o 0 l)) := by
  refine pcallX (callX_of b84 (by simp [Tryd.ntmps84]) ?_) (by simp only [AllCl, cl_int, cl_list, clE_encFs, and_true]) (by simp only [cl_encF])
  refine W.of ?_
  rw [Tryd.ntmps84]
  simp only [toK, codeOf, Tryd.f84, go_sem, seval, reduceCtorEq]
  have H := trivial
  refine autoA ?_
  try exact trivial
  first | exact cut_none _ | exact finA
instance rof_i (o : Int) (l : List Fm) : Ctr (C gl) 84 [.int .i64 o, .list false (encFs l)] True (encF (.mk o 0 l)) := ⟨fun _ => rof_ok false o l⟩
instance rof_i0 (o : Int) : Ctr (C gl) 84 [.int .i64 o, .list false []] True (encF (.mk o 0 [])) := ⟨fun _ => rof_ok false o []⟩
theorem neg_k (n o v : Int) (l : List Fm) (hok : okNode n (.mk o v l) = true) (ihp : ∀ g, Ctr (C gl) 106 [encF g] (g ∈ l) (encF (formF true g))) (ihn : ∀ g, Ctr (C gl) 107 [encF g] (g ∈ l) (encF (formF false g))) :
    PCall (C gl) 107 [encF (.mk o v l)] (encF (formF false (.mk o v l))) := by
  rw [okNode_eq] at hok
  simp only [Bool.and_eq_true] at hok
  obtain ⟨⟨⟨ho1, ho2⟩, hal⟩, hv⟩ := hok
  replace ho1 := of_decide_eq_true ho1
  replace ho2 := of_decide_eq_true ho2
  replace hal := of_decide_eq_true hal
  have hcs : o = 0 ∨ o = 1 ∨ o = 2 ∨ o = 3 ∨ o = 4 ∨ o = 5 ∨ o = 6 ∨ o = 7 ∨ o = 8 ∨ o = 9 ∨ o = 10 ∨ o = 11 ∨ o = 12 ∨ o = 13 := by omega
  refine pcallX (callX_of b107 (by simp [Tryd.ntmps107]) ?_) (by simp only [AllCl, cl_encF, cl_bool, and_true]) (by simp only [cl_encF])
  refine W.of ?_
  rw [Tryd.ntmps107]
  simp only [toK, codeOf, Tryd.f107, go_sem, seval, reduceCtorEq]
  rcases hcs with rfl | rfl | rfl | rfl | rfl | rfl | rfl | rfl | rfl | rfl | rfl | rfl | rfl | rfl
  all_goals rcases l with _ | ⟨g, _ | ⟨h, _ | ⟨x, l⟩⟩⟩
  all_goals try (exfalso; simp [arityL] at hal; done)
  all_goals try (exfalso; simp [arityL] at hal; omega)
  all_goals
    have H := trivial
    refine autoA ?_
    repeat' (first | (refine WK.draw (ops := #[_, _, _, _, _, _, _]) [dq 0 0, dm, dq 1 0, dm, dq 0 0, dm, dm] mixed (by kernel_rfl) ?_; refine autoA ?_) | (refine WK.draw (ops := #[_, _, _, _, _, _, _, _, _, _, _, _, _, _, _]) [dq 0 0, dm, dq 1 0, dm, dq 0 0, dm, dq 3 0, dm, dq 4 0, dm, dq 0 0, dm, dq 0 0, dm, dm] mixed (by kernel_rfl) ?_; refine autoA ?_))
    try exact trivial
    first | exact cut_none _ | (refine finA (by first | (simp only [go_sem, seval, reduceCtorEq, formF, formL, formC, fsel, encF_fold, encF_fold0, Fm.eta, encFs_fold1, encFs_fold2, encFs_fold3]; done) | (simp only [go_sem, seval, reduceCtorEq, formF, formL, formC, fsel, encF_fold, encF_fold0, Fm.eta, encFs_fold1, encFs_fold2, encFs_fold3]; rfl)))
mutual
theorem shrt_of_shor : ∀ f : Fm, ShorF f → Shrt f
  | .mk o v l, h => by
    simp only [ShorF] at h
    simp only [Shrt]
    exact ⟨by omega, shrtL_of_shor l h.2⟩
theorem shrtL_of_shor : ∀ l : List Fm, ShorL l → ShrtL l
  | [], _ => trivial
  | f :: l, h => ⟨shrt_of_shor f h.1, shrtL_of_shor l h.2⟩
end
theorem formL_map (yes : Bool) : ∀ l : List Fm, formL yes l = l.map (formF yes)
  | [] => rfl
  | f :: l => by rw [formL, formL_map yes l]; rfl
theorem pos_d (o v : Int) (l : List Fm) (hlen : l.length < 1000000) (ho : o = 4 ∨ o = 5 ∨ o = 8 ∨ o = 9 ∨ o = 10 ∨ o = 11 ∨ o = 12 ∨ o = 13) (ihp : ∀ g, Ctr (C gl) 106 [encF g] (g ∈ l) (encF (formF true g))) :
    PCall (C gl) 106 [encF (.mk o v l)] (encF (.mk o 0 (l.map (formF true)))) := by
  refine pcallX (callX_of b106 (by simp [Tryd.ntmps106]) ?_) (by simp only [AllCl, cl_encF, cl_bool, and_true]) (by simp only [cl_encF])
  have e0 : (o == 0) = false := by simp; omega
  have e1 : (o == 1) = false := by simp; omega
  have e2 : (o == 2) = false := by simp; omega
  have e3 : (o == 3) = false := by simp; omega
  have e6 : (o == 6) = false := by simp; omega
  have e7 : (o == 7) = false := by simp; omega
  refine W.of ?_
  rw [Tryd.ntmps106]
  simp only [toK, codeOf, Tryd.f106, go_sem, seval, reduceCtorEq]
  have H := And.intro @e0 (And.intro @e1 (And.intro @e2 (And.intro @e3 (And.intro @e6 @e7))))
  refine autoA ?_
  repeat' (first | (refine WK.draw (ops := #[_, _, _, _, _, _, _, _, _, _, _, _, _]) [dq 0 0, dq 0 0, dq 0 0, dq 0 0, dm, dq 0 0, dq 1 0, dq 1 0, dq 1 0, dm, dq 0 0, dm, dm] mixed (by kernel_rfl) ?_; refine autoA ?_) | (refine WK.draw (ops := #[_, _, _, _, _, _, _, _, _, _, _, _, _, _, _, _, _, _, _, _, _, _, _, _, _, _, _]) [dq 0 0, dq 0 0, dq 0 0, dq 0 0, dm, dq 0 0, dq 1 0, dq 1 0, dq 1 0, dm, dq 0 0, dm, dq 0 0, dq 3 0, dq 3 0, dq 3 0, dm, dq 0 0, dq 4 0, dq 4 0, dq 4 0, dm, dq 0 0, dm, dq 0 0, dm, dm] mixed (by kernel_rfl) ?_; refine autoA ?_))
  try exact trivial
  refine WK.own0 3 3 (by decide) (by simp only [go_sem, seval, reduceCtorEq]) ?_
  refine WK.rangeX (l.length) [1, 2, 63] [3] (fun i => [.own 2 (encFs ((l.take i).map (formF true)))]) (fun i => ((Sto.none.add (.box [.int .i64 o, .int .i64 v, .list false (encFs l)])).add (.box [.int .i64 0, .int .i64 0, .list true []])).add (.tok 3 i)) (by omega) (by decide) (by simp only [go_sem, seval, reduceCtorEq, e0, e1, e2, e3, e6, e7]) (by simp only [go_sem, seval, reduceCtorEq, e0, e1, e2, e3, e6, e7]) (by simp only [go_sem, seval, reduceCtorEq, e0, e1, e2, e3, e6, e7, List.take_zero]) (by first | rfl | (simp only [go_sem, seval, reduceCtorEq, e0, e1, e2, e3, e6, e7]; done) | (refine Sto.ext' (by simp only [go_sem, seval, reduceCtorEq, e0, e1, e2, e3, e6, e7]) (fun i => ?_); simp only [go_sem, seval, reduceCtorEq, e0, e1, e2, e3, e6, e7]; repeat' split; all_goals (first | rfl | omega | simp_all))) ?_ ?_
  · intro i hi
    have H := And.intro @e0 (And.intro @e1 (And.intro @e2 (And.intro @e3 (And.intro @e6 (And.intro @e7 @hi)))))
    refine autoA ?_
    repeat' (first | (refine WK.draw (ops := #[_, _, _, _, _, _, _, _, _, _, _, _, _]) [dq 0 0, dq 0 0, dq 0 0, dq 0 0, dm, dq 0 0, dq 1 0, dq 1 0, dq 1 0, dm, dq 0 0, dm, dm] mixed (by kernel_rfl) ?_; refine autoA ?_) | (refine WK.draw (ops := #[_, _, _, _, _, _, _, _, _, _, _, _, _, _, _, _, _, _, _, _, _, _, _, _, _, _, _]) [dq 0 0, dq 0 0, dq 0 0, dq 0 0, dm, dq 0 0, dq 1 0, dq 1 0, dq 1 0, dm, dq 0 0, dm, dq 0 0, dq 3 0, dq 3 0, dq 3 0, dm, dq 0 0, dq 4 0, dq 4 0, dq 4 0, dm, dq 0 0, dm, dq 0 0, dm, dm] mixed (by kernel_rfl) ?_; refine autoA ?_))
    try exact trivial
    refine Cut.by' (by first | exact Nat.le_refl _ | (simp only [Sto.get_mv, Sto.next_mv, Sto.get_add, Sto.get_set, Sto.get_del, Sto.get_none, Sto.next_add, Sto.next_set, Sto.next_del, Sto.next_none]; omega)) (by first | exact Nat.le_refl _ | (simp only [Sto.get_mv, Sto.next_mv, Sto.get_add, Sto.get_set, Sto.get_del, Sto.get_none, Sto.next_add, Sto.next_set, Sto.next_del, Sto.next_none]; omega)) (fun i hi => ?_) (fun i o hi ho => ?_)
    · (try simp only [Sto.get_mv, Sto.next_mv, Sto.get_add, Sto.get_set, Sto.get_del, Sto.get_none, Sto.next_add, Sto.next_set, Sto.next_del, Sto.next_none] at hi ⊢); ((repeat' split) <;> first | exact .inl rfl | exact .inr rfl | omega | (simp_all; done))
    · (try simp only [Sto.get_mv, Sto.next_mv, Sto.get_add, Sto.get_set, Sto.get_del, Sto.get_none, Sto.next_add, Sto.next_set, Sto.next_del, Sto.next_none] at hi ho ⊢); ((repeat' split at ho) <;> (repeat' split) <;> first | (exact ⟨ho, .inl ho⟩) | (cases ho; done) | omega | (cases ho; refine ⟨rfl, .inl rfl⟩) | (cases ho; refine ⟨rfl, .inr ?_⟩; simp only [go_sem, seval, reduceCtorEq, e0, e1, e2, e3, e6, e7]; first | done | omega | (refine ⟨?_, ?_⟩ <;> omega)) | (simp_all; done))
  · simp only [go_sem, seval, reduceCtorEq, e0, e1, e2, e3, e6, e7, List.take_length]
    have H := And.intro @e0 (And.intro @e1 (And.intro @e2 (And.intro @e3 (And.intro @e6 @e7))))
    refine autoA ?_
    repeat' (first | (refine WK.draw (ops := #[_, _, _, _, _, _, _, _, _, _, _, _, _]) [dq 0 0, dq 0 0, dq 0 0, dq 0 0, dm, dq 0 0, dq 1 0, dq 1 0, dq 1 0, dm, dq 0 0, dm, dm] mixed (by kernel_rfl) ?_; refine autoA ?_) | (refine WK.draw (ops := #[_, _, _, _, _, _, _, _, _, _, _, _, _, _, _, _, _, _, _, _, _, _, _, _, _, _, _]) [dq 0 0, dq 0 0, dq 0 0, dq 0 0, dm, dq 0 0, dq 1 0, dq 1 0, dq 1 0, dm, dq 0 0, dm, dq 0 0, dq 3 0, dq 3 0, dq 3 0, dm, dq 0 0, dq 4 0, dq 4 0, dq 4 0, dm, dq 0 0, dm, dq 0 0, dm, dm] mixed (by kernel_rfl) ?_; refine autoA ?_))
    try exact trivial
    first | exact cut_none _ | (refine finA (by first | (simp only [go_sem, seval, reduceCtorEq, e0, e1, e2, e3, e6, e7, encF_fold, encF_fold0, Fm.eta, encFs_fold1, encFs_fold2, encFs_fold3]; done) | (simp only [go_sem, seval, reduceCtorEq, e0, e1, e2, e3, e6, e7, encF_fold, encF_fold0, Fm.eta, encFs_fold1, encFs_fold2, encFs_fold3]; rfl)))
theorem pos_k (n o v : Int) (l : List Fm) (hlen : l.length < 1000000) (hok : okNode n (.mk o v l) = true) (ihp : ∀ g, Ctr (C gl) 106 [encF g] (g ∈ l) (encF (formF true g))) (ihn : ∀ g, Ctr (C gl) 107 [encF g] (g ∈ l) (encF (formF false g))) :
    PCall (C gl) 106 [encF (.mk o v l)] (encF (formF true (.mk o v l))) := by
  rw [okNode_eq] at hok
  simp only [Bool.and_eq_true] at hok
  obtain ⟨⟨⟨ho1, ho2⟩, hal⟩, hv⟩ := hok
  replace ho1 := of_decide_eq_true ho1
  replace ho2 := of_decide_eq_true ho2
  replace hal := of_decide_eq_true hal
  have hcs : o = 0 ∨ o = 1 ∨ o = 2 ∨ o = 3 ∨ o = 4 ∨ o = 5 ∨ o = 6 ∨ o = 7 ∨ o = 8 ∨ o = 9 ∨ o = 10 ∨ o = 11 ∨ o = 12 ∨ o = 13 := by omega
  by_cases hd : o = 4 ∨ o = 5 ∨ o = 8 ∨ o = 9 ∨ o = 10 ∨ o = 11 ∨ o = 12 ∨ o = 13
  · have e : formF true (.mk o v l) = .mk o 0 (l.map (formF true)) := by
      clear ho1 ho2 hv hcs
      rw [formF, formL_map]
      rcases hd with rfl | rfl | rfl | rfl | rfl | rfl | rfl | rfl
      all_goals rcases l with _ | ⟨g, _ | ⟨h, _ | ⟨x, l⟩⟩⟩
      all_goals try (exfalso; simp [arityL] at hal; done)
      all_goals try (exfalso; simp [arityL] at hal; omega)
      all_goals rfl
    rw [e]
    exact pos_d o v l hlen hd ihp
  have hcs : o = 0 ∨ o = 1 ∨ o = 2 ∨ o = 3 ∨ o = 6 ∨ o = 7 := by omega
  have hv0 : o ≠ 2 → v = 0 := fun h => by rw [if_neg h] at hv; exact of_decide_eq_true hv
  refine pcallX (callX_of b106 (by simp [Tryd.ntmps106]) ?_) (by simp only [AllCl, cl_encF, cl_bool, and_true]) (by simp only [cl_encF])
  refine W.of ?_
  rw [Tryd.ntmps106]
  simp only [toK, codeOf, Tryd.f106, go_sem, seval, reduceCtorEq]
  clear ho1 ho2 hv hd
  rcases hcs with rfl | rfl | rfl | rfl | rfl | rfl
  all_goals rcases l with _ | ⟨g, _ | ⟨h, _ | ⟨x, l⟩⟩⟩
  all_goals try (exfalso; simp [arityL] at hal; done)
  all_goals try (exfalso; simp [arityL] at hal; omega)
  all_goals simp only [ne_eq, reduceCtorEq, not_false_eq_true, not_true_eq_false, Int.reduceEq, false_implies, true_implies] at hv0
  all_goals try subst hv0
  all_goals
    have H := trivial
    refine autoA ?_
    repeat' (first | (refine WK.draw (ops := #[_, _, _, _, _, _, _, _, _, _, _, _, _]) [dq 0 0, dq 0 0, dq 0 0, dq 0 0, dm, dq 0 0, dq 1 0, dq 1 0, dq 1 0, dm, dq 0 0, dm, dm] mixed (by kernel_rfl) ?_; refine autoA ?_) | (refine WK.draw (ops := #[_, _, _, _, _, _, _, _, _, _, _, _, _, _, _, _, _, _, _, _, _, _, _, _, _, _, _]) [dq 0 0, dq 0 0, dq 0 0, dq 0 0, dm, dq 0 0, dq 1 0, dq 1 0, dq 1 0, dm, dq 0 0, dm, dq 0 0, dq 3 0, dq 3 0, dq 3 0, dm, dq 0 0, dq 4 0, dq 4 0, dq 4 0, dm, dq 0 0, dm, dq 0 0, dm, dm] mixed (by kernel_rfl) ?_; refine autoA ?_))
    try exact trivial
    first | exact cut_none _ | (refine finA (by first | (simp only [go_sem, seval, reduceCtorEq, formF, formL, formC, fsel, encF_fold, encF_fold0, Fm.eta, encFs_fold1, encFs_fold2, encFs_fold3]; done) | (simp only [go_sem, seval, reduceCtorEq, formF, formL, formC, fsel, encF_fold, encF_fold0, Fm.eta, encFs_fold1, encFs_fold2, encFs_fold3]; rfl)))
theorem pn_all (n : Int) (f : Fm) : ShorF f → (∀ g ∈ nodesF f, okNode n g = true) → PCall (C gl) 106 [encF f] (encF (formF true f)) ∧ PCall (C gl) 107 [encF f] (encF (formF false f)) := by
  induction f using Fm.ind with
  | h o v l ih =>
    intro hs hok
    simp only [ShorF] at hs
    have ih' := fun g hg => ih g hg (hs.2.mem g hg) fun x hx => hok x (by rw [nodesF]; exact List.mem_cons_of_mem _ (nodesL_sub hg hx))
    have hp : ∀ g, Ctr (C gl) 106 [encF g] (g ∈ l) (encF (formF true g)) := fun g => ⟨fun hg => (ih' g hg).1⟩
    have hn : ∀ g, Ctr (C gl) 107 [encF g] (g ∈ l) (encF (formF false g)) := fun g => ⟨fun hg => (ih' g hg).2⟩
    exact ⟨pos_k n o v l hs.1 (hok _ (nodes_self _)) hp hn, neg_k n o v l (hok _ (nodes_self _)) hp hn⟩
end
end Go.Sx
