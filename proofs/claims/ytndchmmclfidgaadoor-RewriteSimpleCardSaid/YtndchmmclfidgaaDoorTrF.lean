import Derived.Test.YtndchmmclfidgaaDoorTrE
import Derived.Test.YtndchmmclfidgaaDoorLgAv
set_option maxRecDepth 100000
set_option maxHeartbeats 4000000
set_option linter.unusedSimpArgs false
set_option linter.unusedVariables false
set_option linter.unnecessarySimpa false
namespace Go.Sx
open Go Go.Lg Go.Proofs
theorem b129 {gl : GL} : Body (C gl).P 129 Tryd.f129 (codeOf Tryd.f129) := ⟨Tryd.func129, by kernel_rfl, by kernel_rfl⟩
theorem b181 {gl : GL} : Body (C gl).P 181 Tryd.f181 (codeOf Tryd.f181) := ⟨Tryd.func181, by kernel_rfl, by kernel_rfl⟩
theorem b182 {gl : GL} : Body (C gl).P 182 Tryd.f182 (codeOf Tryd.f182) := ⟨Tryd.func182, by kernel_rfl, by kernel_rfl⟩
theorem b183 {gl : GL} : Body (C gl).P 183 Tryd.f183 (codeOf Tryd.f183) := ⟨Tryd.func183, by kernel_rfl, by kernel_rfl⟩
def fno (g : Fm) : Fm := .mk 3 0 [g]
def fand (g h : Fm) : Fm := .mk 4 0 [g, h]
def fup (g h : Fm) : Fm := .mk 11 0 [g, h]
def untC (o v : Int) (l U : List Fm) : Fm :=
  let a := U.getD 0 fz
  let b := U.getD 1 fz
  if o = 1 then fno fz
  else if o = 5 then fno (fand (fno a) (fno b))
  else if o = 6 then fno (fand a (fno b))
  else if o = 7 then fand (fno (fand a (fno b))) (fno (fand b (fno a)))
  else if o = 9 then fup fz a
  else if o = 10 then fno (fup fz (fno a))
  else if o = 12 then fno (fup (fno a) (fno b))
  else if o = 13 then fno (fup (fno b) (fand (fno a) (fno b)))
  else if o = 3 ∨ o = 8 then .mk o 0 [a]
  else if o = 4 ∨ o = 11 then .mk o 0 [a, b]
  else .mk o v l
mutual
def untF : Fm → Fm
  | .mk o v l => untC o v l (untL l)
def untL : List Fm → List Fm
  | [] => []
  | f :: l => untF f :: untL l
end
theorem okA_fno {g : Fm} (h : okA g) : okA (fno g) := okA_un (.inl rfl) h
theorem okA_bin {k : Int} {g h : Fm} (hk : k = 4 ∨ k = 11) (h1 : okA g) (h2 : okA h) : okA (.mk k 0 [g, h]) := by
  refine okA_iff.2 ⟨?_, fun x hx => ?_⟩
  · rcases hk with rfl | rfl <;> rfl
  · simp only [List.mem_cons, List.not_mem_nil, or_false] at hx
    rcases hx with rfl | rfl <;> assumption
theorem okA_fand {g h : Fm} (h1 : okA g) (h2 : okA h) : okA (fand g h) := okA_bin (.inl rfl) h1 h2
theorem okA_fup {g h : Fm} (h1 : okA g) (h2 : okA h) : okA (fup g h) := okA_bin (.inr rfl) h1 h2
theorem okA_fz : okA fz := okA_const true
theorem okA_unt (f : Fm) : okA f → okA (untF f) := by
  induction f using Fm.ind with
  | h o v l ih =>
    intro hA
    have hok := hA _ (nodes_self _)
    rw [okNode_eq] at hok
    simp only [Bool.and_eq_true] at hok
    obtain ⟨⟨⟨ho1, ho2⟩, hal⟩, hv⟩ := hok
    replace ho1 := of_decide_eq_true ho1
    replace ho2 := of_decide_eq_true ho2
    replace hal := of_decide_eq_true hal
    have hcs : o = 0 ∨ o = 1 ∨ o = 2 ∨ o = 3 ∨ o = 4 ∨ o = 5 ∨ o = 6 ∨ o = 7 ∨ o = 8 ∨ o = 9 ∨ o = 10 ∨ o = 11 ∨ o = 12 ∨ o = 13 := by omega
    have ih' := fun g hg => ih g hg (okA_sub hA hg)
    clear hv ho1 ho2 ih
    rcases hcs with rfl | rfl | rfl | rfl | rfl | rfl | rfl | rfl | rfl | rfl | rfl | rfl | rfl | rfl
    all_goals rcases l with _ | ⟨g, _ | ⟨h, _ | ⟨x, l⟩⟩⟩
    all_goals try (exfalso; simp [arityL] at hal; done)
    all_goals try (exfalso; simp [arityL] at hal; omega)
    all_goals try have hg := ih' g (by simp)
    all_goals try have hh := ih' h (by simp)
    all_goals simp only [untF, untL, untC, List.getD_cons_zero, List.getD_cons_succ, Int.reduceEq, or_self, or_true, true_or, or_false, false_or, if_true, if_false]
    all_goals first | exact hA | exact okA_fno okA_fz | exact okA_un (.inl rfl) hg | (refine okA_iff.2 ⟨rfl, fun x hx => ?_⟩; rw [List.mem_singleton] at hx; subst hx; exact hg) | exact okA_bin (.inl rfl) hg hh | exact okA_bin (.inr rfl) hg hh | exact okA_fno (okA_fand (okA_fno hg) (okA_fno hh)) | exact okA_fno (okA_fand hg (okA_fno hh)) | exact okA_fand (okA_fno (okA_fand hg (okA_fno hh))) (okA_fno (okA_fand hh (okA_fno hg))) | exact okA_fup okA_fz hg | exact okA_fno (okA_fup okA_fz (okA_fno hg)) | exact okA_fno (okA_fup (okA_fno hg) (okA_fno hh)) | exact okA_fno (okA_fup (okA_fno hh) (okA_fand (okA_fno hg) (okA_fno hh)))
section
variable {gl : GL}
theorem u1_ok (g : Fm) : PCall (C gl) 181 [encF g] (encF (fno g)) := by
  refine pcallX (callX_of b181 (by simp [Tryd.ntmps181]) ?_) (by simp only [AllCl, cl_encF, and_true]) (by simp only [cl_encF])
  refine W.of ?_
  rw [Tryd.ntmps181]
  simp only [toK, codeOf, Tryd.f181, go_sem, seval, reduceCtorEq]
  have H := trivial
  refine autoA ?_
  try exact trivial
  first | exact cut_none _ | (refine finA (by first | (simp only [go_sem, seval, reduceCtorEq, fno, encF_fold, encF_fold0, Fm.eta, encFs_fold1, encFs_fold2, encFs_fold3]; done) | (simp only [go_sem, seval, reduceCtorEq, fno, encF_fold, encF_fold0, Fm.eta, encFs_fold1, encFs_fold2, encFs_fold3]; rfl)))
instance u1_i (g : Fm) : Ctr (C gl) 181 [encF g] True (encF (fno g)) := ⟨fun _ => u1_ok g⟩
theorem u2_ok (g h : Fm) : PCall (C gl) 182 [encF g, encF h] (encF (fand g h)) := by
  refine pcallX (callX_of b182 (by simp [Tryd.ntmps182]) ?_) (by simp only [AllCl, cl_encF, and_true]) (by simp only [cl_encF])
  refine W.of ?_
  rw [Tryd.ntmps182]
  simp only [toK, codeOf, Tryd.f182, go_sem, seval, reduceCtorEq]
  have H := trivial
  refine autoA ?_
  try exact trivial
  first | exact cut_none _ | (refine finA (by first | (simp only [go_sem, seval, reduceCtorEq, fand, encF_fold, encF_fold0, Fm.eta, encFs_fold1, encFs_fold2, encFs_fold3]; done) | (simp only [go_sem, seval, reduceCtorEq, fand, encF_fold, encF_fold0, Fm.eta, encFs_fold1, encFs_fold2, encFs_fold3]; rfl)))
instance u2_i (g h : Fm) : Ctr (C gl) 182 [encF g, encF h] True (encF (fand g h)) := ⟨fun _ => u2_ok g h⟩
theorem u3_ok (g h : Fm) : PCall (C gl) 183 [encF g, encF h] (encF (fup g h)) := by
  refine pcallX (callX_of b183 (by simp [Tryd.ntmps183]) ?_) (by simp only [AllCl, cl_encF, and_true]) (by simp only [cl_encF])
  refine W.of ?_
  rw [Tryd.ntmps183]
  simp only [toK, codeOf, Tryd.f183, go_sem, seval, reduceCtorEq]
  have H := trivial
  refine autoA ?_
  try exact trivial
  first | exact cut_none _ | (refine finA (by first | (simp only [go_sem, seval, reduceCtorEq, fup, encF_fold, encF_fold0, Fm.eta, encFs_fold1, encFs_fold2, encFs_fold3]; done) | (simp only [go_sem, seval, reduceCtorEq, fup, encF_fold, encF_fold0, Fm.eta, encFs_fold1, encFs_fold2, encFs_fold3]; rfl)))
instance u3_i (g h : Fm) : Ctr (C gl) 183 [encF g, encF h] True (encF (fup g h)) := ⟨fun _ => u3_ok g h⟩
theorem wunt_k (o v : Int) (l : List Fm) (hA : okA (.mk o v l)) (ih : ∀ g, Ctr (C gl) 129 [encF g] (g ∈ l) (encF (untF g))) : PCall (C gl) 129 [encF (.mk o v l)] (encF (untF (.mk o v l))) := by
  have hok := hA _ (nodes_self _)
  rw [okNode_eq] at hok
  simp only [Bool.and_eq_true] at hok
  obtain ⟨⟨⟨ho1, ho2⟩, hal⟩, hv⟩ := hok
  replace ho1 := of_decide_eq_true ho1
  replace ho2 := of_decide_eq_true ho2
  replace hal := of_decide_eq_true hal
  have hcs : o = 0 ∨ o = 1 ∨ o = 2 ∨ o = 3 ∨ o = 4 ∨ o = 5 ∨ o = 6 ∨ o = 7 ∨ o = 8 ∨ o = 9 ∨ o = 10 ∨ o = 11 ∨ o = 12 ∨ o = 13 := by omega
  have hs0 := shor_okA _ hA
  have hsh : ∀ g ∈ l, ShorF (untF g) := fun g hg => shor_okA _ (okA_unt g (okA_sub hA hg))
  refine pcallX (callX_of b129 (by simp [Tryd.ntmps129]) ?_) (by simp only [AllCl, cl_encF, and_true]) (by simp only [cl_encF])
  refine W.of ?_
  rw [Tryd.ntmps129]
  simp only [toK, codeOf, Tryd.f129, go_sem, seval, reduceCtorEq]
  clear hv ho1 ho2 hA
  rcases hcs with rfl | rfl | rfl | rfl | rfl | rfl | rfl | rfl | rfl | rfl | rfl | rfl | rfl | rfl
  all_goals rcases l with _ | ⟨g, _ | ⟨h, _ | ⟨x, l⟩⟩⟩
  all_goals try (exfalso; simp [arityL] at hal; done)
  all_goals try (exfalso; simp [arityL] at hal; omega)
  all_goals try have s1 := hsh g (by simp)
  all_goals try have s2 := hsh h (by simp)
  all_goals
    have H := trivial
    refine autoA ?_
    repeat' (first | (refine WK.draw (ops := #[_, _, _, _, _, _, _, _, _, _, _]) [dq 0 0, dq 0 0, dq 0 0, dq 0 0, dm, dq 0 0, dq 1 0, dm, dm, dm, dm] mixed (by kernel_rfl) ?_; refine autoA ?_) | (refine WK.draw (ops := #[_, _, _, _, _, _, _, _, _]) [dq 0 0, dq 0 0, dq 0 1, dq 0 0, dq 0 0, dm, dm, dm, dm] mixed (by kernel_rfl) ?_; refine autoA ?_) | (refine WK.draw (ops := #[_, _, _, _, _, _, _, _, _, _, _, _, _, _, _, _, _, _, _, _, _]) [dq 0 0, dq 0 0, dq 0 0, dq 0 1, dq 0 0, dq 0 0, dm, dm, dm, dq 0 0, dq 0 0, dq 3 0, dm, dq 0 0, dq 4 0, dm, dm, dm, dm, dm, dm] mixed (by kernel_rfl) ?_; refine autoA ?_) | (refine WK.draw (ops := #[_, _, _, _, _, _, _, _, _, _, _, _, _, _, _, _, _]) [dq 0 0, dq 0 0, dq 0 0, dq 0 0, dm, dq 0 0, dq 0 0, dq 1 0, dm, dq 0 0, dq 2 0, dm, dm, dm, dm, dm, dm] mixed (by kernel_rfl) ?_; refine autoA ?_))
    try exact trivial
    first | exact cut_none _ | (refine finA (by first | (simp only [go_sem, seval, reduceCtorEq, untF, untL, untC, fno, fand, fup, fz, encF_fold, encF_fold0, Fm.eta, encFs_fold1, encFs_fold2, encFs_fold3]; done) | (simp only [go_sem, seval, reduceCtorEq, untF, untL, untC, fno, fand, fup, fz, encF_fold, encF_fold0, Fm.eta, encFs_fold1, encFs_fold2, encFs_fold3]; rfl)))
theorem wunt_ok (f : Fm) : okA f → PCall (C gl) 129 [encF f] (encF (untF f)) := by
  induction f using Fm.ind with
  | h o v l ih =>
    intro h
    exact wunt_k o v l h fun g => ⟨fun hg => ih g hg (okA_sub h hg)⟩
instance wunt_i (f : Fm) : Ctr (C gl) 129 [encF f] (okA f) (encF (untF f)) := ⟨wunt_ok f⟩
end
end Go.Sx
