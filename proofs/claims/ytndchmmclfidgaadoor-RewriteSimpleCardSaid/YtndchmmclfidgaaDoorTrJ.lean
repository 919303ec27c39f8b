import Derived.Test.YtndchmmclfidgaaDoorTrI
import Derived.Test.YtndchmmclfidgaaDoorLgAv
set_option maxRecDepth 100000
set_option maxHeartbeats 4000000
set_option linter.unusedSimpArgs false
set_option linter.unusedVariables false
set_option linter.unnecessarySimpa false
namespace Go.Sx
open Go Go.Lg Go.Proofs
theorem b184 {gl : GL} : Body (C gl).P 184 Tryd.f184 (codeOf Tryd.f184) := ⟨Tryd.func184, by kernel_rfl, by kernel_rfl⟩
theorem b185 {gl : GL} : Body (C gl).P 185 Tryd.f185 (codeOf Tryd.f185) := ⟨Tryd.func185, by kernel_rfl, by kernel_rfl⟩
theorem b186 {gl : GL} : Body (C gl).P 186 Tryd.f186 (codeOf Tryd.f186) := ⟨Tryd.func186, by kernel_rfl, by kernel_rfl⟩
theorem b130 {gl : GL} : Body (C gl).P 130 Tryd.f130 (codeOf Tryd.f130) := ⟨Tryd.func130, by kernel_rfl, by kernel_rfl⟩
mutual
def fullF : Fm → Bool
  | .mk _ _ l => fullL l
def fullL : List Fm → Bool
  | [] => false
  | f :: l => (fullF f || decide (60 < nN (untF f))) || fullL l
end
def untR (b : Bool) (f : Fm) : Fm := if (b || fullF f) = true then fz else untF f
def boolV : Option AObj → Bool
  | some (.box [.bool b]) => b
  | _ => false
def isBoolV : Option AObj → Bool
  | some (.box [.bool _]) => true
  | _ => false
def boolAt (σ : Sto) (p : Nat) : Bool := boolV (σ.get p)
def boxB (σ : Sto) (p : Nat) : Prop := isBoolV (σ.get p) = true ∧ p < σ.next
theorem boolAt_eq (σ : Sto) (p : Nat) : boolAt σ p = boolV (σ.get p) := (rfl)
theorem boolV_box (b : Bool) : boolV (some (.box [.bool b])) = b := (rfl)
theorem boxB_eq (σ : Sto) (p : Nat) : boxB σ p = (isBoolV (σ.get p) = true ∧ p < σ.next) := (rfl)
theorem isBoolV_box (b : Bool) : isBoolV (some (.box [.bool b])) = true := (rfl)
attribute [go_sem] boolAt_eq boolV_box boxB_eq isBoolV_box
theorem set_self {σ : Sto} {p : Nat} {o : AObj} (h : σ.get p = some o) : σ.set p o = σ := Sto.ext' rfl fun i => by
  rw [Sto.get_set]
  split
  · rename_i e; rw [e, h]
  · rfl
section
variable {gl : GL}
theorem r4of_ok (fl : Bool) (o : Int) (l : List Fm) : PCall (C gl) 184 [.int .i64 o, .list fl (encFs l)] (encF (.mk o 0 l)) := by
  refine pcallX (callX_of b184 (by simp [Tryd.ntmps184]) ?_) (by simp only [AllCl, cl_int, cl_list, clE_encFs, and_true]) (by simp only [cl_encF])
  refine W.of ?_
  rw [Tryd.ntmps184]
  simp only [toK, codeOf, Tryd.f184, go_sem, seval, reduceCtorEq]
  have H := trivial
  refine autoA ?_
  try exact trivial
  first | exact cut_none _ | exact finA
instance r4of_i (o : Int) (l : List Fm) : Ctr (C gl) 184 [.int .i64 o, .list false (encFs l)] True (encF (.mk o 0 l)) := ⟨fun _ => r4of_ok false o l⟩
instance r4of_i0 (o : Int) : Ctr (C gl) 184 [.int .i64 o, .list false []] True (encF (.mk o 0 [])) := ⟨fun _ => r4of_ok false o []⟩
theorem r4not_ok (g : Fm) : PCall (C gl) 185 [encF g] (encF (fno g)) := by
  refine pcallX (callX_of b185 (by simp [Tryd.ntmps185]) ?_) (by simp only [AllCl, cl_encF, and_true]) (by simp only [cl_encF])
  refine W.of ?_
  rw [Tryd.ntmps185]
  simp only [toK, codeOf, Tryd.f185, go_sem, seval, reduceCtorEq]
  have H := trivial
  refine autoA ?_
  try exact trivial
  first | exact cut_none _ | (refine finA (by first | (simp only [go_sem, seval, reduceCtorEq, fno, encF_fold, encF_fold0, Fm.eta, encFs_fold1, encFs_fold2, encFs_fold3]; done) | (simp only [go_sem, seval, reduceCtorEq, fno, encF_fold, encF_fold0, Fm.eta, encFs_fold1, encFs_fold2, encFs_fold3]; rfl)))
instance r4not_i (g : Fm) : Ctr (C gl) 185 [encF g] True (encF (fno g)) := ⟨fun _ => r4not_ok g⟩
theorem r4and_ok (g h : Fm) : PCall (C gl) 186 [encF g, encF h] (encF (fand g h)) := by
  refine pcallX (callX_of b186 (by simp [Tryd.ntmps186]) ?_) (by simp only [AllCl, cl_encF, and_true]) (by simp only [cl_encF])
  refine W.of ?_
  rw [Tryd.ntmps186]
  simp only [toK, codeOf, Tryd.f186, go_sem, seval, reduceCtorEq]
  have H := trivial
  refine autoA ?_
  try exact trivial
  first | exact cut_none _ | (refine finA (by first | (simp only [go_sem, seval, reduceCtorEq, fand, encF_fold, encF_fold0, Fm.eta, encFs_fold1, encFs_fold2, encFs_fold3]; done) | (simp only [go_sem, seval, reduceCtorEq, fand, encF_fold, encF_fold0, Fm.eta, encFs_fold1, encFs_fold2, encFs_fold3]; rfl)))
instance r4and_i (g h : Fm) : Ctr (C gl) 186 [encF g, encF h] True (encF (fand g h)) := ⟨fun _ => r4and_ok g h⟩
theorem few60_ok (f : Fm) (hA : okA f) : PCall (C gl) 26 [encF f, .int .i64 60] (.bool (decide (nN f ≤ 60))) := by
  have := fewR_ok (gl := gl) f (shrt_of_shor _ (shor_okA _ hA)) 60 (by omega) (by omega)
  rw [nodesR_min f 60 (by omega)] at this
  rw [show decide (min ((nodesF f).length : Int) (60 + 1) ≤ 60) = decide (nN f ≤ 60) by unfold nN; exact decide_eq_decide.2 (by omega)] at this
  exact this
instance few60_i (f : Fm) : Ctr (C gl) 26 [encF f, .int .i64 60] (okA f) (.bool (decide (nN f ≤ 60))) := ⟨few60_ok f⟩
theorem runt_k (o v : Int) (l : List Fm) (hA : okA (.mk o v l)) (p : Nat) (ih : ∀ g σ, CtrX (C gl) 130 [encF g, .ptr p 0] [] σ (g ∈ l ∧ boxB σ p) (encF (untR (boolAt σ p) g)) (σ.set p (.box [.bool (boolAt σ p || fullF g)]))) (σ : Sto) (b : Bool) (hb : σ.get p = some (.box [.bool b])) (hp : p < σ.next) :
    CallX (C gl) 130 [encF (.mk o v l), .ptr p 0] σ (encF (untR b (.mk o v l))) (σ.set p (.box [.bool (b || fullF (.mk o v l))])) := by
  have hok := hA _ (nodes_self _)
  have hsA := shor_okA _ hA
  have hu := fun g (hg : g ∈ l) => okA_unt g (okA_sub hA hg)
  have hz := okA_fz
  rw [okNode_eq] at hok
  simp only [Bool.and_eq_true] at hok
  obtain ⟨⟨⟨ho1, ho2⟩, hal⟩, hv⟩ := hok
  replace ho1 := of_decide_eq_true ho1
  replace ho2 := of_decide_eq_true ho2
  replace hal := of_decide_eq_true hal
  have hcs : o = 0 ∨ o = 1 ∨ o = 2 ∨ o = 3 ∨ o = 4 ∨ o = 5 ∨ o = 6 ∨ o = 7 ∨ o = 8 ∨ o = 9 ∨ o = 10 ∨ o = 11 ∨ o = 12 ∨ o = 13 := by omega
  clear hv ho1 ho2 hA
  refine callX_of b130 (by simp [Tryd.ntmps130]) ?_
  have nz_p : (p = σ.next) = False := by simp; omega
  have nx_p : ∀ j, (p = σ.next + j) = False := fun j => by simp; omega
  refine W.of ?_
  rw [Tryd.ntmps130]
  simp only [toK, codeOf, Tryd.f130, go_sem, seval, reduceCtorEq]
  have e0 : ∀ x : Bool, (false || x) = x := fun x => rfl
  have htt : ∀ g, untR true g = fz := fun g => rfl
  have hfz : decide (nN (.mk 0 0 []) ≤ 60) = true := rfl
  have hfo : ∀ g, (true || fullF g) = true := fun g => rfl
  rcases l with _ | ⟨g, _ | ⟨h, _ | ⟨x, l⟩⟩⟩
  · have ef : fullF (.mk o v []) = false := rfl
    rw [ef]
    cases b with
    | true =>
      have H := And.intro @nz_p (And.intro @nx_p (And.intro @hb @hz))
      refine autoA ?_
      repeat' (first | (refine WK.draw (id := 20) [dq 0 0, dm, dq 1 0, dm, dm, dm, dm] mixed (by kernel_rfl) ?_; refine autoA ?_) | (refine WK.draw (id := 28) [dq 0 1, dq 0 0, dm, dq 0 0, dm, dm, dm] mixed (by kernel_rfl) ?_; refine autoA ?_) | (refine WK.draw (ops := #[_, _, _, _, _, _]) [dq 0 1, dq 0 0, dm, dm, dm, dm] mixed (by kernel_rfl) ?_; refine autoA ?_) | (refine WK.draw (ops := #[_, _, _, _, _, _, _, _, _, _, _, _]) [dq 0 1, dq 0 0, dm, dm, dm, dq 3 1, dq 3 0, dm, dm, dm, dm, dm] mixed (by kernel_rfl) ?_; refine autoA ?_) | (refine WK.draw (ops := #[_, _, _, _, _, _, _, _]) [dq 0 0, dm, dq 1 0, dm, dq 0 0, dm, dm, dm] mixed (by kernel_rfl) ?_; refine autoA ?_) | (refine WK.draw (ops := #[_, _, _, _, _, _, _, _, _, _, _]) [dq 0 0, dm, dq 1 0, dm, dq 2 0, dm, dm, dq 0 0, dm, dm, dm] mixed (by kernel_rfl) ?_; refine autoA ?_))
      try exact trivial
      exact finX cutA (by first | (simp only [go_sem, seval, reduceCtorEq, htt, fz, encF_fold, encF_fold0, Fm.eta, encFs_fold1, encFs_fold2, encFs_fold3]; done) | (simp only [go_sem, seval, reduceCtorEq, htt, fz, encF_fold, encF_fold0, Fm.eta, encFs_fold1, encFs_fold2, encFs_fold3]; rfl))
    | false =>
      have eu : untR false (.mk o v []) = untF (.mk o v []) := rfl
      rw [eu, e0, set_self hb]
      have H := And.intro @nz_p (And.intro @nx_p (And.intro @hb (And.intro @hz @hfz)))
      refine autoA ?_
      repeat' (first | (refine WK.draw (id := 20) [dq 0 0, dm, dq 1 0, dm, dm, dm, dm] mixed (by kernel_rfl) ?_; refine autoA ?_) | (refine WK.draw (id := 28) [dq 0 1, dq 0 0, dm, dq 0 0, dm, dm, dm] mixed (by kernel_rfl) ?_; refine autoA ?_) | (refine WK.draw (ops := #[_, _, _, _, _, _]) [dq 0 1, dq 0 0, dm, dm, dm, dm] mixed (by kernel_rfl) ?_; refine autoA ?_) | (refine WK.draw (ops := #[_, _, _, _, _, _, _, _, _, _, _, _]) [dq 0 1, dq 0 0, dm, dm, dm, dq 3 1, dq 3 0, dm, dm, dm, dm, dm] mixed (by kernel_rfl) ?_; refine autoA ?_) | (refine WK.draw (ops := #[_, _, _, _, _, _, _, _]) [dq 0 0, dm, dq 1 0, dm, dq 0 0, dm, dm, dm] mixed (by kernel_rfl) ?_; refine autoA ?_) | (refine WK.draw (ops := #[_, _, _, _, _, _, _, _, _, _, _]) [dq 0 0, dm, dq 1 0, dm, dq 2 0, dm, dm, dq 0 0, dm, dm, dm] mixed (by kernel_rfl) ?_; refine autoA ?_))
      try exact trivial
      rcases hcs with rfl | rfl | rfl | rfl | rfl | rfl | rfl | rfl | rfl | rfl | rfl | rfl | rfl | rfl
      all_goals try (exfalso; simp [arityL] at hal; done)
      all_goals try (exfalso; simp [arityL] at hal; omega)
      all_goals
        have H := And.intro @nz_p (And.intro @nx_p @hb)
        refine autoA ?_
        repeat' (first | (refine WK.draw (id := 20) [dq 0 0, dm, dq 1 0, dm, dm, dm, dm] mixed (by kernel_rfl) ?_; refine autoA ?_) | (refine WK.draw (id := 28) [dq 0 1, dq 0 0, dm, dq 0 0, dm, dm, dm] mixed (by kernel_rfl) ?_; refine autoA ?_) | (refine WK.draw (ops := #[_, _, _, _, _, _]) [dq 0 1, dq 0 0, dm, dm, dm, dm] mixed (by kernel_rfl) ?_; refine autoA ?_) | (refine WK.draw (ops := #[_, _, _, _, _, _, _, _, _, _, _, _]) [dq 0 1, dq 0 0, dm, dm, dm, dq 3 1, dq 3 0, dm, dm, dm, dm, dm] mixed (by kernel_rfl) ?_; refine autoA ?_) | (refine WK.draw (ops := #[_, _, _, _, _, _, _, _]) [dq 0 0, dm, dq 1 0, dm, dq 0 0, dm, dm, dm] mixed (by kernel_rfl) ?_; refine autoA ?_) | (refine WK.draw (ops := #[_, _, _, _, _, _, _, _, _, _, _]) [dq 0 0, dm, dq 1 0, dm, dq 2 0, dm, dm, dq 0 0, dm, dm, dm] mixed (by kernel_rfl) ?_; refine autoA ?_))
        try exact trivial
        clear ih hu hal hsA htt hfz hfo ef eu e0 hb
        have H := trivial
        exact finX cutA (by first | (simp only [go_sem, seval, reduceCtorEq, untF, untL, untC, fno, fz, encF_fold, encF_fold0, Fm.eta, encFs_fold1, encFs_fold2, encFs_fold3]; done) | (simp only [go_sem, seval, reduceCtorEq, untF, untL, untC, fno, fz, encF_fold, encF_fold0, Fm.eta, encFs_fold1, encFs_fold2, encFs_fold3]; rfl))
  · cases b with
    | true =>
      rw [hfo, htt]
      have H := And.intro @nz_p (And.intro @nx_p (And.intro @hb (And.intro @hz (And.intro @htt @hfo))))
      refine autoA ?_
      repeat' (first | (refine WK.draw (id := 20) [dq 0 0, dm, dq 1 0, dm, dm, dm, dm] mixed (by kernel_rfl) ?_; refine autoA ?_) | (refine WK.draw (id := 28) [dq 0 1, dq 0 0, dm, dq 0 0, dm, dm, dm] mixed (by kernel_rfl) ?_; refine autoA ?_) | (refine WK.draw (ops := #[_, _, _, _, _, _]) [dq 0 1, dq 0 0, dm, dm, dm, dm] mixed (by kernel_rfl) ?_; refine autoA ?_) | (refine WK.draw (ops := #[_, _, _, _, _, _, _, _, _, _, _, _]) [dq 0 1, dq 0 0, dm, dm, dm, dq 3 1, dq 3 0, dm, dm, dm, dm, dm] mixed (by kernel_rfl) ?_; refine autoA ?_) | (refine WK.draw (ops := #[_, _, _, _, _, _, _, _]) [dq 0 0, dm, dq 1 0, dm, dq 0 0, dm, dm, dm] mixed (by kernel_rfl) ?_; refine autoA ?_) | (refine WK.draw (ops := #[_, _, _, _, _, _, _, _, _, _, _]) [dq 0 0, dm, dq 1 0, dm, dq 2 0, dm, dm, dq 0 0, dm, dm, dm] mixed (by kernel_rfl) ?_; refine autoA ?_))
      try exact trivial
      exact finX cutA (by first | (simp only [go_sem, seval, reduceCtorEq, htt, fz, encF_fold, encF_fold0, Fm.eta, encFs_fold1, encFs_fold2, encFs_fold3]; done) | (simp only [go_sem, seval, reduceCtorEq, htt, fz, encF_fold, encF_fold0, Fm.eta, encFs_fold1, encFs_fold2, encFs_fold3]; rfl))
    | false =>
    have hug := hu g (by simp)
    cases kf : fullF g with
    | true =>
      have ef : fullF (.mk o v [g]) = true := by simp [fullF, fullL, kf]
      have er : untR false (.mk o v [g]) = fz := by simp [untR, ef]
      rw [ef, er, e0]
      have er2 : untR false g = fz := by simp [untR, kf]
      have H := And.intro @nz_p (And.intro @nx_p (And.intro @hb (And.intro @hz (And.intro @er2 (And.intro @kf @e0)))))
      refine autoA ?_
      repeat' (first | (refine WK.draw (id := 20) [dq 0 0, dm, dq 1 0, dm, dm, dm, dm] mixed (by kernel_rfl) ?_; refine autoA ?_) | (refine WK.draw (id := 28) [dq 0 1, dq 0 0, dm, dq 0 0, dm, dm, dm] mixed (by kernel_rfl) ?_; refine autoA ?_) | (refine WK.draw (ops := #[_, _, _, _, _, _]) [dq 0 1, dq 0 0, dm, dm, dm, dm] mixed (by kernel_rfl) ?_; refine autoA ?_) | (refine WK.draw (ops := #[_, _, _, _, _, _, _, _, _, _, _, _]) [dq 0 1, dq 0 0, dm, dm, dm, dq 3 1, dq 3 0, dm, dm, dm, dm, dm] mixed (by kernel_rfl) ?_; refine autoA ?_) | (refine WK.draw (ops := #[_, _, _, _, _, _, _, _]) [dq 0 0, dm, dq 1 0, dm, dq 0 0, dm, dm, dm] mixed (by kernel_rfl) ?_; refine autoA ?_) | (refine WK.draw (ops := #[_, _, _, _, _, _, _, _, _, _, _]) [dq 0 0, dm, dq 1 0, dm, dq 2 0, dm, dm, dq 0 0, dm, dm, dm] mixed (by kernel_rfl) ?_; refine autoA ?_))
      try exact trivial
      exact finX cutA (by first | (simp only [go_sem, seval, reduceCtorEq, hb, fz, encF_fold, encF_fold0, Fm.eta, encFs_fold1, encFs_fold2, encFs_fold3]; done) | (simp only [go_sem, seval, reduceCtorEq, hb, fz, encF_fold, encF_fold0, Fm.eta, encFs_fold1, encFs_fold2, encFs_fold3]; rfl))
    | false =>
    have er2 : untR false g = untF g := by simp [untR, kf]
    cases kn : decide (nN (untF g) ≤ 60) with
    | false =>
      have ef : fullF (.mk o v [g]) = true := by have := of_decide_eq_false kn; simp [fullF, fullL, kf]; omega
      have er : untR false (.mk o v [g]) = fz := by simp [untR, ef]
      rw [ef, er, e0]
      have H := And.intro @nz_p (And.intro @nx_p (And.intro @hb (And.intro @hz (And.intro @er2 (And.intro @kf (And.intro @e0 (And.intro @kn @hug)))))))
      refine autoA ?_
      repeat' (first | (refine WK.draw (id := 20) [dq 0 0, dm, dq 1 0, dm, dm, dm, dm] mixed (by kernel_rfl) ?_; refine autoA ?_) | (refine WK.draw (id := 28) [dq 0 1, dq 0 0, dm, dq 0 0, dm, dm, dm] mixed (by kernel_rfl) ?_; refine autoA ?_) | (refine WK.draw (ops := #[_, _, _, _, _, _]) [dq 0 1, dq 0 0, dm, dm, dm, dm] mixed (by kernel_rfl) ?_; refine autoA ?_) | (refine WK.draw (ops := #[_, _, _, _, _, _, _, _, _, _, _, _]) [dq 0 1, dq 0 0, dm, dm, dm, dq 3 1, dq 3 0, dm, dm, dm, dm, dm] mixed (by kernel_rfl) ?_; refine autoA ?_) | (refine WK.draw (ops := #[_, _, _, _, _, _, _, _]) [dq 0 0, dm, dq 1 0, dm, dq 0 0, dm, dm, dm] mixed (by kernel_rfl) ?_; refine autoA ?_) | (refine WK.draw (ops := #[_, _, _, _, _, _, _, _, _, _, _]) [dq 0 0, dm, dq 1 0, dm, dq 2 0, dm, dm, dq 0 0, dm, dm, dm] mixed (by kernel_rfl) ?_; refine autoA ?_))
      try exact trivial
      exact finX cutA (by first | (simp only [go_sem, seval, reduceCtorEq, hb, fz, encF_fold, encF_fold0, Fm.eta, encFs_fold1, encFs_fold2, encFs_fold3]; done) | (simp only [go_sem, seval, reduceCtorEq, hb, fz, encF_fold, encF_fold0, Fm.eta, encFs_fold1, encFs_fold2, encFs_fold3]; rfl))
    | true =>
      have ef : fullF (.mk o v [g]) = false := by have := of_decide_eq_true kn; simp [fullF, fullL, kf]; omega
      have er : untR false (.mk o v [g]) = untF (.mk o v [g]) := by simp [untR, ef]
      rw [ef, er, e0]
      have H := And.intro @nz_p (And.intro @nx_p (And.intro @hb (And.intro @hz (And.intro @hfz (And.intro @er2 (And.intro @kf (And.intro @e0 (And.intro @kn @hug))))))))
      refine autoA ?_
      repeat' (first | (refine WK.draw (id := 20) [dq 0 0, dm, dq 1 0, dm, dm, dm, dm] mixed (by kernel_rfl) ?_; refine autoA ?_) | (refine WK.draw (id := 28) [dq 0 1, dq 0 0, dm, dq 0 0, dm, dm, dm] mixed (by kernel_rfl) ?_; refine autoA ?_) | (refine WK.draw (ops := #[_, _, _, _, _, _]) [dq 0 1, dq 0 0, dm, dm, dm, dm] mixed (by kernel_rfl) ?_; refine autoA ?_) | (refine WK.draw (ops := #[_, _, _, _, _, _, _, _, _, _, _, _]) [dq 0 1, dq 0 0, dm, dm, dm, dq 3 1, dq 3 0, dm, dm, dm, dm, dm] mixed (by kernel_rfl) ?_; refine autoA ?_) | (refine WK.draw (ops := #[_, _, _, _, _, _, _, _]) [dq 0 0, dm, dq 1 0, dm, dq 0 0, dm, dm, dm] mixed (by kernel_rfl) ?_; refine autoA ?_) | (refine WK.draw (ops := #[_, _, _, _, _, _, _, _, _, _, _]) [dq 0 0, dm, dq 1 0, dm, dq 2 0, dm, dm, dq 0 0, dm, dm, dm] mixed (by kernel_rfl) ?_; refine autoA ?_))
      try exact trivial
      rcases hcs with rfl | rfl | rfl | rfl | rfl | rfl | rfl | rfl | rfl | rfl | rfl | rfl | rfl | rfl
      all_goals try (exfalso; simp [arityL] at hal; done)
      all_goals try (exfalso; simp [arityL] at hal; omega)
      all_goals
        have H := And.intro @nz_p (And.intro @nx_p @hb)
        refine autoA ?_
        repeat' (first | (refine WK.draw (id := 20) [dq 0 0, dm, dq 1 0, dm, dm, dm, dm] mixed (by kernel_rfl) ?_; refine autoA ?_) | (refine WK.draw (id := 28) [dq 0 1, dq 0 0, dm, dq 0 0, dm, dm, dm] mixed (by kernel_rfl) ?_; refine autoA ?_) | (refine WK.draw (ops := #[_, _, _, _, _, _]) [dq 0 1, dq 0 0, dm, dm, dm, dm] mixed (by kernel_rfl) ?_; refine autoA ?_) | (refine WK.draw (ops := #[_, _, _, _, _, _, _, _, _, _, _, _]) [dq 0 1, dq 0 0, dm, dm, dm, dq 3 1, dq 3 0, dm, dm, dm, dm, dm] mixed (by kernel_rfl) ?_; refine autoA ?_) | (refine WK.draw (ops := #[_, _, _, _, _, _, _, _]) [dq 0 0, dm, dq 1 0, dm, dq 0 0, dm, dm, dm] mixed (by kernel_rfl) ?_; refine autoA ?_) | (refine WK.draw (ops := #[_, _, _, _, _, _, _, _, _, _, _]) [dq 0 0, dm, dq 1 0, dm, dq 2 0, dm, dm, dq 0 0, dm, dm, dm] mixed (by kernel_rfl) ?_; refine autoA ?_))
        try exact trivial
        exact finX cutA (by first | (simp only [go_sem, seval, reduceCtorEq, hb, untF, untL, untC, fno, fand, fup, fz, encF_fold, encF_fold0, Fm.eta, encFs_fold1, encFs_fold2, encFs_fold3]; done) | (simp only [go_sem, seval, reduceCtorEq, hb, untF, untL, untC, fno, fand, fup, fz, encF_fold, encF_fold0, Fm.eta, encFs_fold1, encFs_fold2, encFs_fold3]; rfl))
  · cases b with
    | true =>
      rw [hfo, htt]
      have H := And.intro @nz_p (And.intro @nx_p (And.intro @hb (And.intro @hz (And.intro @htt @hfo))))
      refine autoA ?_
      repeat' (first | (refine WK.draw (id := 20) [dq 0 0, dm, dq 1 0, dm, dm, dm, dm] mixed (by kernel_rfl) ?_; refine autoA ?_) | (refine WK.draw (id := 28) [dq 0 1, dq 0 0, dm, dq 0 0, dm, dm, dm] mixed (by kernel_rfl) ?_; refine autoA ?_) | (refine WK.draw (ops := #[_, _, _, _, _, _]) [dq 0 1, dq 0 0, dm, dm, dm, dm] mixed (by kernel_rfl) ?_; refine autoA ?_) | (refine WK.draw (ops := #[_, _, _, _, _, _, _, _, _, _, _, _]) [dq 0 1, dq 0 0, dm, dm, dm, dq 3 1, dq 3 0, dm, dm, dm, dm, dm] mixed (by kernel_rfl) ?_; refine autoA ?_) | (refine WK.draw (ops := #[_, _, _, _, _, _, _, _]) [dq 0 0, dm, dq 1 0, dm, dq 0 0, dm, dm, dm] mixed (by kernel_rfl) ?_; refine autoA ?_) | (refine WK.draw (ops := #[_, _, _, _, _, _, _, _, _, _, _]) [dq 0 0, dm, dq 1 0, dm, dq 2 0, dm, dm, dq 0 0, dm, dm, dm] mixed (by kernel_rfl) ?_; refine autoA ?_))
      try exact trivial
      exact finX cutA (by first | (simp only [go_sem, seval, reduceCtorEq, htt, fz, encF_fold, encF_fold0, Fm.eta, encFs_fold1, encFs_fold2, encFs_fold3]; done) | (simp only [go_sem, seval, reduceCtorEq, htt, fz, encF_fold, encF_fold0, Fm.eta, encFs_fold1, encFs_fold2, encFs_fold3]; rfl))
    | false =>
    have hug := hu g (by simp)
    have huh := hu h (by simp)
    cases kf : fullF g with
    | true =>
      have ef : fullF (.mk o v [g, h]) = true := by simp [fullF, fullL, kf]
      have er : untR false (.mk o v [g, h]) = fz := by simp [untR, ef]
      rw [ef, er, e0]
      have er2 : untR false g = fz := by simp [untR, kf]
      have H := And.intro @nz_p (And.intro @nx_p (And.intro @hb (And.intro @hz (And.intro @er2 (And.intro @kf (And.intro @e0 (And.intro @hfo @htt)))))))
      refine autoA ?_
      repeat' (first | (refine WK.draw (id := 20) [dq 0 0, dm, dq 1 0, dm, dm, dm, dm] mixed (by kernel_rfl) ?_; refine autoA ?_) | (refine WK.draw (id := 28) [dq 0 1, dq 0 0, dm, dq 0 0, dm, dm, dm] mixed (by kernel_rfl) ?_; refine autoA ?_) | (refine WK.draw (ops := #[_, _, _, _, _, _]) [dq 0 1, dq 0 0, dm, dm, dm, dm] mixed (by kernel_rfl) ?_; refine autoA ?_) | (refine WK.draw (ops := #[_, _, _, _, _, _, _, _, _, _, _, _]) [dq 0 1, dq 0 0, dm, dm, dm, dq 3 1, dq 3 0, dm, dm, dm, dm, dm] mixed (by kernel_rfl) ?_; refine autoA ?_) | (refine WK.draw (ops := #[_, _, _, _, _, _, _, _]) [dq 0 0, dm, dq 1 0, dm, dq 0 0, dm, dm, dm] mixed (by kernel_rfl) ?_; refine autoA ?_) | (refine WK.draw (ops := #[_, _, _, _, _, _, _, _, _, _, _]) [dq 0 0, dm, dq 1 0, dm, dq 2 0, dm, dm, dq 0 0, dm, dm, dm] mixed (by kernel_rfl) ?_; refine autoA ?_))
      try exact trivial
      exact finX cutA (by first | (simp only [go_sem, seval, reduceCtorEq, hb, fz, encF_fold, encF_fold0, Fm.eta, encFs_fold1, encFs_fold2, encFs_fold3]; done) | (simp only [go_sem, seval, reduceCtorEq, hb, fz, encF_fold, encF_fold0, Fm.eta, encFs_fold1, encFs_fold2, encFs_fold3]; rfl))
    | false =>
    have er2 : untR false g = untF g := by simp [untR, kf]
    cases kg : fullF h with
    | true =>
      have ef : fullF (.mk o v [g, h]) = true := by simp [fullF, fullL, kg]
      have er : untR false (.mk o v [g, h]) = fz := by simp [untR, ef]
      rw [ef, er, e0]
      have er3 : untR false h = fz := by simp [untR, kg]
      have H := And.intro @nz_p (And.intro @nx_p (And.intro @hb (And.intro @hz (And.intro @er2 (And.intro @er3 (And.intro @kf (And.intro @kg @e0)))))))
      refine autoA ?_
      repeat' (first | (refine WK.draw (id := 20) [dq 0 0, dm, dq 1 0, dm, dm, dm, dm] mixed (by kernel_rfl) ?_; refine autoA ?_) | (refine WK.draw (id := 28) [dq 0 1, dq 0 0, dm, dq 0 0, dm, dm, dm] mixed (by kernel_rfl) ?_; refine autoA ?_) | (refine WK.draw (ops := #[_, _, _, _, _, _]) [dq 0 1, dq 0 0, dm, dm, dm, dm] mixed (by kernel_rfl) ?_; refine autoA ?_) | (refine WK.draw (ops := #[_, _, _, _, _, _, _, _, _, _, _, _]) [dq 0 1, dq 0 0, dm, dm, dm, dq 3 1, dq 3 0, dm, dm, dm, dm, dm] mixed (by kernel_rfl) ?_; refine autoA ?_) | (refine WK.draw (ops := #[_, _, _, _, _, _, _, _]) [dq 0 0, dm, dq 1 0, dm, dq 0 0, dm, dm, dm] mixed (by kernel_rfl) ?_; refine autoA ?_) | (refine WK.draw (ops := #[_, _, _, _, _, _, _, _, _, _, _]) [dq 0 0, dm, dq 1 0, dm, dq 2 0, dm, dm, dq 0 0, dm, dm, dm] mixed (by kernel_rfl) ?_; refine autoA ?_))
      try exact trivial
      exact finX cutA (by first | (simp only [go_sem, seval, reduceCtorEq, hb, fz, encF_fold, encF_fold0, Fm.eta, encFs_fold1, encFs_fold2, encFs_fold3]; done) | (simp only [go_sem, seval, reduceCtorEq, hb, fz, encF_fold, encF_fold0, Fm.eta, encFs_fold1, encFs_fold2, encFs_fold3]; rfl))
    | false =>
    have er3 : untR false h = untF h := by simp [untR, kg]
    cases kn : decide (nN (untF g) ≤ 60) with
    | false =>
      have ef : fullF (.mk o v [g, h]) = true := by have := of_decide_eq_false kn; simp [fullF, fullL, kf, kg]; omega
      have er : untR false (.mk o v [g, h]) = fz := by simp [untR, ef]
      rw [ef, er, e0]
      have H := And.intro @nz_p (And.intro @nx_p (And.intro @hb (And.intro @hz (And.intro @er2 (And.intro @er3 (And.intro @kf (And.intro @kg (And.intro @e0 (And.intro @kn (And.intro @hug @huh))))))))))
      refine autoA ?_
      repeat' (first | (refine WK.draw (id := 20) [dq 0 0, dm, dq 1 0, dm, dm, dm, dm] mixed (by kernel_rfl) ?_; refine autoA ?_) | (refine WK.draw (id := 28) [dq 0 1, dq 0 0, dm, dq 0 0, dm, dm, dm] mixed (by kernel_rfl) ?_; refine autoA ?_) | (refine WK.draw (ops := #[_, _, _, _, _, _]) [dq 0 1, dq 0 0, dm, dm, dm, dm] mixed (by kernel_rfl) ?_; refine autoA ?_) | (refine WK.draw (ops := #[_, _, _, _, _, _, _, _, _, _, _, _]) [dq 0 1, dq 0 0, dm, dm, dm, dq 3 1, dq 3 0, dm, dm, dm, dm, dm] mixed (by kernel_rfl) ?_; refine autoA ?_) | (refine WK.draw (ops := #[_, _, _, _, _, _, _, _]) [dq 0 0, dm, dq 1 0, dm, dq 0 0, dm, dm, dm] mixed (by kernel_rfl) ?_; refine autoA ?_) | (refine WK.draw (ops := #[_, _, _, _, _, _, _, _, _, _, _]) [dq 0 0, dm, dq 1 0, dm, dq 2 0, dm, dm, dq 0 0, dm, dm, dm] mixed (by kernel_rfl) ?_; refine autoA ?_))
      try exact trivial
      exact finX cutA (by first | (simp only [go_sem, seval, reduceCtorEq, hb, fz, encF_fold, encF_fold0, Fm.eta, encFs_fold1, encFs_fold2, encFs_fold3]; done) | (simp only [go_sem, seval, reduceCtorEq, hb, fz, encF_fold, encF_fold0, Fm.eta, encFs_fold1, encFs_fold2, encFs_fold3]; rfl))
    | true =>
    cases km : decide (nN (untF h) ≤ 60) with
    | false =>
      have ef : fullF (.mk o v [g, h]) = true := by have := of_decide_eq_false km; simp [fullF, fullL, kf, kg]; omega
      have er : untR false (.mk o v [g, h]) = fz := by simp [untR, ef]
      rw [ef, er, e0]
      have H := And.intro @nz_p (And.intro @nx_p (And.intro @hb (And.intro @hz (And.intro @er2 (And.intro @er3 (And.intro @kf (And.intro @kg (And.intro @e0 (And.intro @kn (And.intro @km (And.intro @hug @huh)))))))))))
      refine autoA ?_
      repeat' (first | (refine WK.draw (id := 20) [dq 0 0, dm, dq 1 0, dm, dm, dm, dm] mixed (by kernel_rfl) ?_; refine autoA ?_) | (refine WK.draw (id := 28) [dq 0 1, dq 0 0, dm, dq 0 0, dm, dm, dm] mixed (by kernel_rfl) ?_; refine autoA ?_) | (refine WK.draw (ops := #[_, _, _, _, _, _]) [dq 0 1, dq 0 0, dm, dm, dm, dm] mixed (by kernel_rfl) ?_; refine autoA ?_) | (refine WK.draw (ops := #[_, _, _, _, _, _, _, _, _, _, _, _]) [dq 0 1, dq 0 0, dm, dm, dm, dq 3 1, dq 3 0, dm, dm, dm, dm, dm] mixed (by kernel_rfl) ?_; refine autoA ?_) | (refine WK.draw (ops := #[_, _, _, _, _, _, _, _]) [dq 0 0, dm, dq 1 0, dm, dq 0 0, dm, dm, dm] mixed (by kernel_rfl) ?_; refine autoA ?_) | (refine WK.draw (ops := #[_, _, _, _, _, _, _, _, _, _, _]) [dq 0 0, dm, dq 1 0, dm, dq 2 0, dm, dm, dq 0 0, dm, dm, dm] mixed (by kernel_rfl) ?_; refine autoA ?_))
      try exact trivial
      exact finX cutA (by first | (simp only [go_sem, seval, reduceCtorEq, hb, fz, encF_fold, encF_fold0, Fm.eta, encFs_fold1, encFs_fold2, encFs_fold3]; done) | (simp only [go_sem, seval, reduceCtorEq, hb, fz, encF_fold, encF_fold0, Fm.eta, encFs_fold1, encFs_fold2, encFs_fold3]; rfl))
    | true =>
      have ef : fullF (.mk o v [g, h]) = false := by have := of_decide_eq_true kn; have := of_decide_eq_true km; simp [fullF, fullL, kf, kg]; omega
      have er : untR false (.mk o v [g, h]) = untF (.mk o v [g, h]) := by simp [untR, ef]
      rw [ef, er, e0]
      have H := And.intro @nz_p (And.intro @nx_p (And.intro @hb (And.intro @hz (And.intro @er2 (And.intro @er3 (And.intro @kf (And.intro @kg (And.intro @e0 (And.intro @kn (And.intro @km (And.intro @hug @huh)))))))))))
      refine autoA ?_
      repeat' (first | (refine WK.draw (id := 20) [dq 0 0, dm, dq 1 0, dm, dm, dm, dm] mixed (by kernel_rfl) ?_; refine autoA ?_) | (refine WK.draw (id := 28) [dq 0 1, dq 0 0, dm, dq 0 0, dm, dm, dm] mixed (by kernel_rfl) ?_; refine autoA ?_) | (refine WK.draw (ops := #[_, _, _, _, _, _]) [dq 0 1, dq 0 0, dm, dm, dm, dm] mixed (by kernel_rfl) ?_; refine autoA ?_) | (refine WK.draw (ops := #[_, _, _, _, _, _, _, _, _, _, _, _]) [dq 0 1, dq 0 0, dm, dm, dm, dq 3 1, dq 3 0, dm, dm, dm, dm, dm] mixed (by kernel_rfl) ?_; refine autoA ?_) | (refine WK.draw (ops := #[_, _, _, _, _, _, _, _]) [dq 0 0, dm, dq 1 0, dm, dq 0 0, dm, dm, dm] mixed (by kernel_rfl) ?_; refine autoA ?_) | (refine WK.draw (ops := #[_, _, _, _, _, _, _, _, _, _, _]) [dq 0 0, dm, dq 1 0, dm, dq 2 0, dm, dm, dq 0 0, dm, dm, dm] mixed (by kernel_rfl) ?_; refine autoA ?_))
      try exact trivial
      rcases hcs with rfl | rfl | rfl | rfl | rfl | rfl | rfl | rfl | rfl | rfl | rfl | rfl | rfl | rfl
      all_goals try (exfalso; simp [arityL] at hal; done)
      all_goals try (exfalso; simp [arityL] at hal; omega)
      all_goals
        have H := And.intro @nz_p (And.intro @nx_p @hb)
        refine autoA ?_
        repeat' (first | (refine WK.draw (id := 20) [dq 0 0, dm, dq 1 0, dm, dm, dm, dm] mixed (by kernel_rfl) ?_; refine autoA ?_) | (refine WK.draw (id := 28) [dq 0 1, dq 0 0, dm, dq 0 0, dm, dm, dm] mixed (by kernel_rfl) ?_; refine autoA ?_) | (refine WK.draw (ops := #[_, _, _, _, _, _]) [dq 0 1, dq 0 0, dm, dm, dm, dm] mixed (by kernel_rfl) ?_; refine autoA ?_) | (refine WK.draw (ops := #[_, _, _, _, _, _, _, _, _, _, _, _]) [dq 0 1, dq 0 0, dm, dm, dm, dq 3 1, dq 3 0, dm, dm, dm, dm, dm] mixed (by kernel_rfl) ?_; refine autoA ?_) | (refine WK.draw (ops := #[_, _, _, _, _, _, _, _]) [dq 0 0, dm, dq 1 0, dm, dq 0 0, dm, dm, dm] mixed (by kernel_rfl) ?_; refine autoA ?_) | (refine WK.draw (ops := #[_, _, _, _, _, _, _, _, _, _, _]) [dq 0 0, dm, dq 1 0, dm, dq 2 0, dm, dm, dq 0 0, dm, dm, dm] mixed (by kernel_rfl) ?_; refine autoA ?_))
        try exact trivial
        exact finX cutA (by first | (simp only [go_sem, seval, reduceCtorEq, hb, untF, untL, untC, fno, fand, fup, fz, encF_fold, encF_fold0, Fm.eta, encFs_fold1, encFs_fold2, encFs_fold3]; done) | (simp only [go_sem, seval, reduceCtorEq, hb, untF, untL, untC, fno, fand, fup, fz, encF_fold, encF_fold0, Fm.eta, encFs_fold1, encFs_fold2, encFs_fold3]; rfl))
  · exfalso
    rcases hcs with rfl | rfl | rfl | rfl | rfl | rfl | rfl | rfl | rfl | rfl | rfl | rfl | rfl | rfl
    all_goals (simp [arityL] at hal)
    all_goals omega
theorem runt_ok (f : Fm) : okA f → ∀ p σ b, σ.get p = some (.box [.bool b]) → p < σ.next → CallX (C gl) 130 [encF f, .ptr p 0] σ (encF (untR b f)) (σ.set p (.box [.bool (b || fullF f)])) := by
  induction f using Fm.ind with
  | h o v l ih =>
    intro h p σ b hb hp
    refine runt_k o v l h p (fun g σ' => ⟨fun ⟨hg, h1, h2⟩ => ?_⟩) σ b hb hp
    obtain ⟨b', hb'⟩ : ∃ b', σ'.get p = some (.box [.bool b']) := by
      unfold isBoolV at h1
      split at h1
      · exact ⟨_, by assumption⟩
      · cases h1
    rw [boolAt_eq, hb', boolV_box]
    exact ih g hg (okA_sub h hg) p σ' b' hb' h2
instance runt_i (f : Fm) (p : Nat) (σ : Sto) : CtrX (C gl) 130 [encF f, .ptr p 0] [] σ (okA f ∧ boxB σ p) (encF (untR (boolAt σ p) f)) (σ.set p (.box [.bool (boolAt σ p || fullF f)])) := ⟨fun ⟨h, h1, h2⟩ => by
  obtain ⟨b', hb'⟩ : ∃ b', σ.get p = some (.box [.bool b']) := by
    unfold isBoolV at h1
    split at h1
    · exact ⟨_, by assumption⟩
    · cases h1
  rw [boolAt_eq, hb', boolV_box]
  exact runt_ok f h p σ b' hb' h2⟩
end
end Go.Sx
