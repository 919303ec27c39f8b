import Derived.Test.YtndchmmclfidgaaDoorLgAw
import Derived.Test.YtndchmmclfidgaaDoorTkF
import Derived.Test.YtndchmmclfidgaaDoorFaZ
set_option maxRecDepth 100000
set_option linter.unusedSimpArgs false
set_option linter.unusedVariables false
set_option linter.unnecessarySimpa false
namespace Go.Sx
open Go Go.Lg Go.Proofs
theorem b109 {gl : GL} : Body (C gl).P 109 Tryd.f109 (codeOf Tryd.f109) := ⟨Tryd.func109, by kernel_rfl, by kernel_rfl⟩
theorem b171 {gl : GL} : Body (C gl).P 171 Tryd.f171 (codeOf Tryd.f171) := ⟨Tryd.func171, by kernel_rfl, by kernel_rfl⟩
theorem b196 {gl : GL} : Body (C gl).P 196 Tryd.f196 (codeOf Tryd.f196) := ⟨Tryd.func196, by kernel_rfl, by kernel_rfl⟩
theorem b197 {gl : GL} : Body (C gl).P 197 Tryd.f197 (codeOf Tryd.f197) := ⟨Tryd.func197, by kernel_rfl, by kernel_rfl⟩
theorem b198 {gl : GL} : Body (C gl).P 198 Tryd.f198 (codeOf Tryd.f198) := ⟨Tryd.func198, by kernel_rfl, by kernel_rfl⟩
theorem b199 {gl : GL} : Body (C gl).P 199 Tryd.f199 (codeOf Tryd.f199) := ⟨Tryd.func199, by kernel_rfl, by kernel_rfl⟩

/-! ## Negation normal forms -/
def fsel (yes : Bool) (a b : Int) : Int := if yes then a else b
theorem fsel_d (yes : Bool) (a b : Int) : fsel yes a b = (if yes then a else b) := (rfl)
def fz : Fm := .mk 0 0 []
def formC (yes : Bool) (o v : Int) (l P N : List Fm) : Fm :=
  let s0 := (if yes then P else N).getD 0 fz
  let s1 := (if yes then P else N).getD 1 fz
  if o = 0 then .mk (fsel yes 0 1) 0 []
  else if o = 1 then .mk (fsel yes 1 0) 0 []
  else if o = 2 then (if yes then .mk o v l else .mk 3 0 [.mk o v l])
  else if o = 3 then (if yes then N else P).getD 0 fz
  else if o = 8 then .mk 8 0 [s0]
  else if o = 9 then .mk (fsel yes 9 10) 0 [s0]
  else if o = 10 then .mk (fsel yes 10 9) 0 [s0]
  else if o = 4 then .mk (fsel yes 4 5) 0 [s0, s1]
  else if o = 5 then .mk (fsel yes 5 4) 0 [s0, s1]
  else if o = 6 then (if yes then .mk 5 0 [N.getD 0 fz, P.getD 1 fz] else .mk 4 0 [P.getD 0 fz, N.getD 1 fz])
  else if o = 7 then (if yes then .mk 5 0 [.mk 4 0 [P.getD 0 fz, P.getD 1 fz], .mk 4 0 [N.getD 0 fz, N.getD 1 fz]] else .mk 5 0 [.mk 4 0 [P.getD 0 fz, N.getD 1 fz], .mk 4 0 [N.getD 0 fz, P.getD 1 fz]])
  else if o = 11 then .mk (fsel yes 11 12) 0 [s0, s1]
  else if o = 12 then .mk (fsel yes 12 11) 0 [s0, s1]
  else if yes then .mk 13 0 [P.getD 0 fz, P.getD 1 fz] else .mk 11 0 [.mk 4 0 [P.getD 0 fz, N.getD 1 fz], .mk 4 0 [N.getD 0 fz, N.getD 1 fz]]
mutual
def formF (yes : Bool) : Fm → Fm
  | .mk o v l => formC yes o v l (formL true l) (formL false l)
def formL (yes : Bool) : List Fm → List Fm
  | [] => []
  | f :: l => formF yes f :: formL yes l
end
section
variable {gl : GL}
theorem copy_k (o v : Int) (l : List Fm) (hlen : l.length < 1000000) (ih : ∀ g ∈ l, PCall (C gl) 109 [encF g] (encF g)) : PCall (C gl) 109 [encF (.mk o v l)] (encF (.mk o v l)) := by
  refine pcallX (callX_of b109 (by simp [Tryd.ntmps109]) ?_) (by simp only [AllCl, cl_encF, and_true]) (by simp only [cl_encF])
  refine W.of ?_
  rw [Tryd.ntmps109]
  simp only [toK, codeOf, Tryd.f109, go_sem, seval, reduceCtorEq]
  have H := And.intro @encFs_len @encF_eq
  refine goB ?_
  first | exact trivial | clear H
  refine WK.ownBox0 2 2 3 (by simp only [go_sem, seval, reduceCtorEq, encFs_len]; rfl) (by rfl) ?_
  simp only [go_sem, seval, reduceCtorEq, encFs_len]
  refine WK.rangeX (l.length) [1, 2, 3, 12] [] (fun i => []) (fun i => (((Sto.none.add (.box [.int .i64 o, .int .i64 v, .list false (encFs l)])).add (.box [.int .i64 0, .int .i64 0, .list true []])).add (.box [.int .i64 o, .int .i64 v, .own 3 (encFs (l.take i))])).add (.tok 3 i)) (by omega) (by decide) (by simp only [go_sem, seval, reduceCtorEq, encFs_len, encFs]) (by simp only [go_sem, seval, reduceCtorEq, encFs_len, encFs]) (by simp only [go_sem, seval, reduceCtorEq, encFs_len, encFs, List.take_zero]) (by first | rfl | (simp only [go_sem, seval, reduceCtorEq, encFs_len, encFs]; done) | (refine Sto.ext' (by simp only [go_sem, seval, reduceCtorEq, encFs_len, encFs]) (fun i => ?_); simp only [go_sem, seval, reduceCtorEq, encFs_len, encFs]; repeat' split; all_goals (first | rfl | omega | simp_all))) ?_ ?_
  · intro i hi
    simp only [go_sem, seval, reduceCtorEq, encFs_len]
    have e := encFs_get l i hi
    have H := And.intro @encFs_len (And.intro @e (And.intro @hi @encF_eq))
    refine goB ?_
    first | exact trivial | clear H
    refine WK.draw [⟨false, 0, 0⟩, ⟨false, 0, 1⟩, ⟨false, 0, 0⟩, ⟨true, 0, 0⟩, ⟨false, 0, 0⟩, ⟨true, 0, 0⟩, ⟨false, 0, 0⟩, ⟨true, 0, 0⟩] mixed (by kernel_rfl) ?_
    simp only [go_sem, seval, reduceCtorEq, encFs_len]
    refine callD_pure (ih l[i] (List.getElem_mem hi)) rfl ?_ ?_ ?_ <;> simp only [go_sem, seval, reduceCtorEq, encFs_len, encF_eq]
    have H := @encFs_len
    refine appBd ?_
    first | exact trivial | clear H
    rw [encFs_tk1 l i hi]
    have H := @encFs_len
    exact cutA
  · simp only [go_sem, seval, reduceCtorEq, encFs_len, List.take_length]
    have H := @encFs_len
    refine goB ?_
    first | exact trivial | clear H
    refine ⟨AV.le_agg ⟨.refl _, .refl _, le_own _ _, trivial⟩, ?_⟩
    have H := @encFs_len
    exact cutA
theorem copy_ok (f : Fm) : ShorF f → PCall (C gl) 109 [encF f] (encF f) := by
  induction f using Fm.ind with
  | h o v l ih =>
    intro hs
    simp only [ShorF] at hs
    exact copy_k o v l hs.1 fun g hg => ih g hg (hs.2.mem g hg)
def FormOK (gl : GL) (f : Fm) : Prop := ∀ yes : Bool, PCall (C gl) 171 [encF f, .bool yes] (encF (formF yes f))
theorem pos_ok (f : Fm) (h : FormOK gl f) : PCall (C gl) 196 [encF f] (encF (formF true f)) := by
  refine pcallX (callX_of b196 (by simp [Tryd.ntmps196]) ?_) (by simp only [AllCl, cl_encF, and_true]) (by simp only [cl_encF])
  refine W.of ?_
  rw [Tryd.ntmps196]
  simp only [toK, codeOf, Tryd.f196, go_sem, seval, reduceCtorEq]
  have H := @encF_eq
  refine goB ?_
  first | exact trivial | clear H
  refine callK_pureL (h true) rfl ?_ ?_ ?_ <;> simp only [go_sem, seval, reduceCtorEq, encF_eq]
  have H := trivial
  refine goB ?_
  first | exact trivial | clear H
  exact cut_none _
theorem neg_ok (f : Fm) (h : FormOK gl f) : PCall (C gl) 197 [encF f] (encF (formF false f)) := by
  refine pcallX (callX_of b197 (by simp [Tryd.ntmps197]) ?_) (by simp only [AllCl, cl_encF, and_true]) (by simp only [cl_encF])
  refine W.of ?_
  rw [Tryd.ntmps197]
  simp only [toK, codeOf, Tryd.f197, go_sem, seval, reduceCtorEq]
  have H := @encF_eq
  refine goB ?_
  first | exact trivial | clear H
  refine callK_pureL (h false) rfl ?_ ?_ ?_ <;> simp only [go_sem, seval, reduceCtorEq, encF_eq]
  have H := trivial
  refine goB ?_
  first | exact trivial | clear H
  exact cut_none _
theorem same_ok (f : Fm) (h : FormOK gl f) (yes : Bool) (id : Nat) (σ : Sto) (hg : σ.get id = some (.box [.bool yes])) (hl : id < σ.next) : CallX (C gl) 198 ([encF f] ++ [.ptr id 0]) σ (encF (formF yes f)) σ := by
  refine callX_of b198 (by simp [Tryd.ntmps198]) ?_
  have nz_id : (id = σ.next) = False := by simp; omega
  have nx_id : ∀ j, (id = σ.next + j) = False := fun j => by simp; omega
  refine W.of ?_
  rw [Tryd.ntmps198]
  simp only [toK, codeOf, Tryd.f198, go_sem, seval, reduceCtorEq]
  have H := And.intro @nz_id (And.intro @nx_id (And.intro @hg @encF_eq))
  refine goB ?_
  first | exact trivial | clear H
  refine callK_pureL (h yes) rfl ?_ ?_ ?_ <;> simp only [go_sem, seval, reduceCtorEq, nz_id, nx_id, hg, encF_eq]
  have H := And.intro @nz_id (And.intro @nx_id @hg)
  refine goB ?_
  first | exact trivial | clear H
  have H := And.intro @nz_id (And.intro @nx_id @hg)
  exact cutA
theorem opc_ok (a b : Int) (yes : Bool) (id : Nat) (σ : Sto) (hg : σ.get id = some (.box [.bool yes])) (hl : id < σ.next) : CallX (C gl) 199 ([.int .i64 a, .int .i64 b] ++ [.ptr id 0]) σ (.int .i64 (fsel yes a b)) σ := by
  refine callX_of b199 (by simp [Tryd.ntmps199]) ?_
  have nz_id : (id = σ.next) = False := by simp; omega
  have nx_id : ∀ j, (id = σ.next + j) = False := fun j => by simp; omega
  refine W.of ?_
  rw [Tryd.ntmps199]
  simp only [toK, codeOf, Tryd.f199, go_sem, seval, reduceCtorEq]
  have H := And.intro @nz_id (And.intro @nx_id @hg)
  refine goB ?_
  first | exact trivial | clear H
  cases yes with
  | true =>
    have H := And.intro @nz_id (And.intro @nx_id (And.intro @hg @fsel_d))
    refine goB ?_
    first | exact trivial | clear H
  | false =>
    have H := And.intro @nz_id (And.intro @nx_id (And.intro @hg @fsel_d))
    refine goB ?_
    first | exact trivial | clear H
set_option maxHeartbeats 4000000
theorem len_two {l : List Fm} (h : l.length = 2) : ∃ g h, l = [g, h] := by
  match l, h with
  | [g, h], _ => exact ⟨g, h, rfl⟩
theorem form_k (n o v : Int) (l : List Fm) (hok : okNode n (.mk o v l) = true) (hcp : PCall (C gl) 109 [encF (.mk o v l)] (encF (.mk o v l))) (ih : ∀ g ∈ l, FormOK gl g) : FormOK gl (.mk o v l) := by
  intro yes
  rw [okNode_eq] at hok
  simp only [Bool.and_eq_true] at hok
  obtain ⟨⟨⟨ho1, ho2⟩, hal⟩, hv⟩ := hok
  replace ho1 := of_decide_eq_true ho1
  replace ho2 := of_decide_eq_true ho2
  replace hal := of_decide_eq_true hal
  have hcs : o = 0 ∨ o = 1 ∨ o = 2 ∨ o = 3 ∨ o = 4 ∨ o = 5 ∨ o = 6 ∨ o = 7 ∨ o = 8 ∨ o = 9 ∨ o = 10 ∨ o = 11 ∨ o = 12 ∨ o = 13 := by omega
  refine pcallX (callX_of b171 (by simp [Tryd.ntmps171]) ?_) (by simp only [AllCl, cl_encF, cl_bool, and_true]) (by simp only [cl_encF])
  refine W.of ?_
  rw [Tryd.ntmps171]
  simp only [toK, codeOf, Tryd.f171, go_sem, seval, reduceCtorEq]
  have H := @encF_eq
  refine goB ?_
  first | exact trivial | clear H
  rcases hcs with rfl | rfl | rfl | rfl | rfl | rfl | rfl | rfl | rfl | rfl | rfl | rfl | rfl | rfl
  · have hl0 : l = [] := List.length_eq_zero_iff.1 (by have : (l.length : Int) = 0 := hal; omega)
    subst hl0
    have ef : formF yes (.mk 0 v []) = .mk (fsel yes 0 1) 0 [] := by cases yes <;> rfl
    rw [ef]
    have H := trivial
    refine goB ?_
    first | exact trivial | clear H
    refine callK_x (opc_ok 0 1 yes 1 _ (by simp only [go_sem, seval, reduceCtorEq]; first | done | omega) (by simp only [go_sem, seval, reduceCtorEq]; first | done | omega)) rfl ?_ ?_ ?_ <;> simp only [go_sem, seval, reduceCtorEq]
    have H := trivial
    refine goB ?_
    first | exact trivial | clear H
    refine callK_pureL (make_ok (gl := gl) true (fsel yes 0 1) []) rfl ?_ ?_ ?_ <;> simp only [go_sem, seval, reduceCtorEq, encF_eq, encFs]
    have H := trivial
    refine goB ?_
    first | exact trivial | clear H
    exact cut_none _
  · have hl0 : l = [] := List.length_eq_zero_iff.1 (by have : (l.length : Int) = 0 := hal; omega)
    subst hl0
    have ef : formF yes (.mk 1 v []) = .mk (fsel yes 1 0) 0 [] := by cases yes <;> rfl
    rw [ef]
    have H := trivial
    refine goB ?_
    first | exact trivial | clear H
    refine callK_x (opc_ok 1 0 yes 1 _ (by simp only [go_sem, seval, reduceCtorEq]; first | done | omega) (by simp only [go_sem, seval, reduceCtorEq]; first | done | omega)) rfl ?_ ?_ ?_ <;> simp only [go_sem, seval, reduceCtorEq]
    have H := trivial
    refine goB ?_
    first | exact trivial | clear H
    refine callK_pureL (make_ok (gl := gl) true (fsel yes 1 0) []) rfl ?_ ?_ ?_ <;> simp only [go_sem, seval, reduceCtorEq, encF_eq, encFs]
    have H := trivial
    refine goB ?_
    first | exact trivial | clear H
    exact cut_none _
  · have hl0 : l = [] := List.length_eq_zero_iff.1 (by have : (l.length : Int) = 0 := hal; omega)
    subst hl0
    cases yes with
    | true =>
      have ef : formF true (.mk 2 v []) = .mk 2 v [] := rfl
      rw [ef]
      have H := trivial
      refine goB ?_
      first | exact trivial | clear H
      refine callK_pureL (hcp) rfl ?_ ?_ ?_ <;> simp only [go_sem, seval, reduceCtorEq, encF_eq, encFs]
      try exact AV.le.refl _
      have H := trivial
      refine goB ?_
      first | exact trivial | clear H
      exact cut_none _
    | false =>
      have ef : formF false (.mk 2 v []) = .mk 3 0 [.mk 2 v []] := rfl
      rw [ef]
      have H := trivial
      refine goB ?_
      first | exact trivial | clear H
      refine callK_pureL (hcp) rfl ?_ ?_ ?_ <;> simp only [go_sem, seval, reduceCtorEq, encF_eq, encFs]
      try exact AV.le.refl _
      have H := trivial
      refine goB ?_
      first | exact trivial | clear H
      refine callK_pureL (make_ok (gl := gl) true 3 [.mk 2 v []]) rfl ?_ ?_ ?_ <;> simp only [go_sem, seval, reduceCtorEq, encF_eq, encFs]
      have H := trivial
      refine goB ?_
      first | exact trivial | clear H
      exact cut_none _
  · obtain ⟨g, rfl⟩ : ∃ g, l = [g] := List.length_eq_one_iff.1 (by have : (l.length : Int) = 1 := hal; omega)
    have ihg := ih g (List.mem_cons_self ..)
    have ef : formF yes (.mk 3 v [g]) = formF (!yes) g := by cases yes <;> rfl
    rw [ef]
    have H := trivial
    refine goB ?_
    first | exact trivial | clear H
    refine WK.draw [⟨false, 0, 0⟩, ⟨false, 0, 0⟩, ⟨false, 0, 0⟩, ⟨false, 0, 0⟩, ⟨false, 0, 0⟩, ⟨false, 0, 0⟩, ⟨true, 0, 0⟩, ⟨true, 0, 0⟩] mixed (by kernel_rfl) ?_
    simp only [go_sem, seval, reduceCtorEq, encFs, encF_eq]
    repeat (with_reducible refine And.intro ?_ ?_; focus omega)
    refine callD_pure (ihg (!yes)) rfl ?_ ?_ ?_ <;> simp only [go_sem, seval, reduceCtorEq, encF_eq]
    have H := trivial
    refine goB ?_
    first | exact trivial | clear H
    exact cut_none _
  · obtain ⟨g, h, rfl⟩ : ∃ g h, l = [g, h] := len_two (by have : (l.length : Int) = 2 := hal; omega)
    have ihg := ih g (List.mem_cons_self ..)
    have ihh := ih h (List.mem_cons_of_mem _ (List.mem_cons_self ..))
    have ef : formF yes (.mk 4 v [g, h]) = .mk (fsel yes 4 5) 0 [formF yes g, formF yes h] := by cases yes <;> rfl
    rw [ef]
    have H := trivial
    refine goB ?_
    first | exact trivial | clear H
    refine WK.drawF [⟨false, 0, 0⟩, ⟨false, 0, 2⟩, ⟨false, 0, 2⟩, ⟨false, 0, 2⟩, ⟨false, 0, 0⟩, ⟨false, 0, 3⟩, ⟨false, 0, 3⟩, ⟨false, 0, 3⟩, ⟨true, 0, 0⟩, ⟨true, 0, 0⟩, ⟨true, 0, 0⟩, ⟨true, 0, 0⟩] mixed (by kernel_rfl) ?_
    simp only [go_sem, seval, reduceCtorEq, encFs, encF_eq]
    repeat (with_reducible refine And.intro ?_ ?_; focus omega)
    have H := trivial
    refine goB ?_
    first | exact trivial | clear H
    refine WK.draw [⟨false, 0, 0⟩, ⟨true, 0, 0⟩, ⟨false, 0, 0⟩, ⟨false, 1, 0⟩, ⟨true, 0, 0⟩, ⟨false, 0, 0⟩, ⟨false, 2, 0⟩, ⟨true, 0, 0⟩, ⟨false, 0, 0⟩, ⟨true, 0, 0⟩, ⟨true, 0, 0⟩] mixed (by kernel_rfl) ?_
    simp only [go_sem, seval, reduceCtorEq, encFs, encF_eq]
    repeat (with_reducible refine And.intro ?_ ?_; focus omega)
    refine callD_x (opc_ok 4 5 yes 1 _ (by simp only [go_sem, seval, reduceCtorEq]; first | done | omega) (by simp only [go_sem, seval, reduceCtorEq]; first | done | omega)) rfl ?_ ?_ ?_ <;> simp only [go_sem, seval, reduceCtorEq]
    refine callD_x (same_ok g ihg yes 1 _ (by simp only [go_sem, seval, reduceCtorEq]; first | done | omega) (by simp only [go_sem, seval, reduceCtorEq]; first | done | omega)) rfl ?_ ?_ ?_ <;> simp only [go_sem, seval, reduceCtorEq, encF_eq]
    refine callD_x (same_ok h ihh yes 1 _ (by simp only [go_sem, seval, reduceCtorEq]; first | done | omega) (by simp only [go_sem, seval, reduceCtorEq]; first | done | omega)) rfl ?_ ?_ ?_ <;> simp only [go_sem, seval, reduceCtorEq, encF_eq]
    refine callD_pure (make_ok (gl := gl) true (fsel yes 4 5) [formF yes g, formF yes h]) rfl ?_ ?_ ?_ <;> simp only [go_sem, seval, reduceCtorEq, encF_eq, encFs]
    have H := trivial
    refine goB ?_
    first | exact trivial | clear H
    exact cut_none _
  · obtain ⟨g, h, rfl⟩ : ∃ g h, l = [g, h] := len_two (by have : (l.length : Int) = 2 := hal; omega)
    have ihg := ih g (List.mem_cons_self ..)
    have ihh := ih h (List.mem_cons_of_mem _ (List.mem_cons_self ..))
    have ef : formF yes (.mk 5 v [g, h]) = .mk (fsel yes 5 4) 0 [formF yes g, formF yes h] := by cases yes <;> rfl
    rw [ef]
    have H := trivial
    refine goB ?_
    first | exact trivial | clear H
    refine WK.drawF [⟨false, 0, 0⟩, ⟨false, 0, 2⟩, ⟨false, 0, 2⟩, ⟨false, 0, 2⟩, ⟨false, 0, 0⟩, ⟨false, 0, 3⟩, ⟨false, 0, 3⟩, ⟨false, 0, 3⟩, ⟨true, 0, 0⟩, ⟨true, 0, 0⟩, ⟨true, 0, 0⟩, ⟨true, 0, 0⟩] mixed (by kernel_rfl) ?_
    simp only [go_sem, seval, reduceCtorEq, encFs, encF_eq]
    repeat (with_reducible refine And.intro ?_ ?_; focus omega)
    have H := trivial
    refine goB ?_
    first | exact trivial | clear H
    refine WK.draw [⟨false, 0, 0⟩, ⟨true, 0, 0⟩, ⟨false, 0, 0⟩, ⟨false, 1, 0⟩, ⟨true, 0, 0⟩, ⟨false, 0, 0⟩, ⟨false, 2, 0⟩, ⟨true, 0, 0⟩, ⟨false, 0, 0⟩, ⟨true, 0, 0⟩, ⟨true, 0, 0⟩] mixed (by kernel_rfl) ?_
    simp only [go_sem, seval, reduceCtorEq, encFs, encF_eq]
    repeat (with_reducible refine And.intro ?_ ?_; focus omega)
    refine callD_x (opc_ok 5 4 yes 1 _ (by simp only [go_sem, seval, reduceCtorEq]; first | done | omega) (by simp only [go_sem, seval, reduceCtorEq]; first | done | omega)) rfl ?_ ?_ ?_ <;> simp only [go_sem, seval, reduceCtorEq]
    refine callD_x (same_ok g ihg yes 1 _ (by simp only [go_sem, seval, reduceCtorEq]; first | done | omega) (by simp only [go_sem, seval, reduceCtorEq]; first | done | omega)) rfl ?_ ?_ ?_ <;> simp only [go_sem, seval, reduceCtorEq, encF_eq]
    refine callD_x (same_ok h ihh yes 1 _ (by simp only [go_sem, seval, reduceCtorEq]; first | done | omega) (by simp only [go_sem, seval, reduceCtorEq]; first | done | omega)) rfl ?_ ?_ ?_ <;> simp only [go_sem, seval, reduceCtorEq, encF_eq]
    refine callD_pure (make_ok (gl := gl) true (fsel yes 5 4) [formF yes g, formF yes h]) rfl ?_ ?_ ?_ <;> simp only [go_sem, seval, reduceCtorEq, encF_eq, encFs]
    have H := trivial
    refine goB ?_
    first | exact trivial | clear H
    exact cut_none _
  · obtain ⟨g, h, rfl⟩ : ∃ g h, l = [g, h] := len_two (by have : (l.length : Int) = 2 := hal; omega)
    have ihg := ih g (List.mem_cons_self ..)
    have ihh := ih h (List.mem_cons_of_mem _ (List.mem_cons_self ..))
    cases yes with
    | true =>
      have ef : formF true (.mk 6 v [g, h]) = .mk 5 0 [formF false g, formF true h] := rfl
      rw [ef]
      have H := trivial
      refine goB ?_
      first | exact trivial | clear H
      refine WK.drawF [⟨false, 0, 0⟩, ⟨false, 0, 2⟩, ⟨false, 0, 2⟩, ⟨false, 0, 2⟩, ⟨false, 0, 0⟩, ⟨false, 0, 3⟩, ⟨false, 0, 3⟩, ⟨false, 0, 3⟩, ⟨true, 0, 0⟩, ⟨true, 0, 0⟩, ⟨true, 0, 0⟩, ⟨true, 0, 0⟩] mixed (by kernel_rfl) ?_
      simp only [go_sem, seval, reduceCtorEq, encFs, encF_eq]
      repeat (with_reducible refine And.intro ?_ ?_; focus omega)
      have H := trivial
      refine goB ?_
      first | exact trivial | clear H
      refine WK.draw [⟨false, 0, 0⟩, ⟨false, 0, 0⟩, ⟨true, 0, 0⟩, ⟨false, 0, 0⟩, ⟨false, 1, 0⟩, ⟨true, 0, 0⟩, ⟨false, 0, 0⟩, ⟨true, 0, 0⟩, ⟨true, 0, 0⟩] mixed (by kernel_rfl) ?_
      simp only [go_sem, seval, reduceCtorEq, encFs, encF_eq]
      repeat (with_reducible refine And.intro ?_ ?_; focus omega)
      refine callD_pure (neg_ok g ihg) rfl ?_ ?_ ?_ <;> simp only [go_sem, seval, reduceCtorEq, encF_eq]
      refine callD_pure (pos_ok h ihh) rfl ?_ ?_ ?_ <;> simp only [go_sem, seval, reduceCtorEq, encF_eq]
      refine callD_pure (make_ok (gl := gl) true 5 [formF false g, formF true h]) rfl ?_ ?_ ?_ <;> simp only [go_sem, seval, reduceCtorEq, encF_eq, encFs]
      have H := trivial
      refine goB ?_
      first | exact trivial | clear H
      exact cut_none _
    | false =>
      have ef : formF false (.mk 6 v [g, h]) = .mk 4 0 [formF true g, formF false h] := rfl
      rw [ef]
      have H := trivial
      refine goB ?_
      first | exact trivial | clear H
      refine WK.drawF [⟨false, 0, 0⟩, ⟨false, 0, 2⟩, ⟨false, 0, 2⟩, ⟨false, 0, 2⟩, ⟨false, 0, 0⟩, ⟨false, 0, 3⟩, ⟨false, 0, 3⟩, ⟨false, 0, 3⟩, ⟨true, 0, 0⟩, ⟨true, 0, 0⟩, ⟨true, 0, 0⟩, ⟨true, 0, 0⟩] mixed (by kernel_rfl) ?_
      simp only [go_sem, seval, reduceCtorEq, encFs, encF_eq]
      repeat (with_reducible refine And.intro ?_ ?_; focus omega)
      have H := trivial
      refine goB ?_
      first | exact trivial | clear H
      refine WK.draw [⟨false, 0, 0⟩, ⟨false, 0, 0⟩, ⟨true, 0, 0⟩, ⟨false, 0, 0⟩, ⟨false, 1, 0⟩, ⟨true, 0, 0⟩, ⟨false, 0, 0⟩, ⟨true, 0, 0⟩, ⟨true, 0, 0⟩] mixed (by kernel_rfl) ?_
      simp only [go_sem, seval, reduceCtorEq, encFs, encF_eq]
      repeat (with_reducible refine And.intro ?_ ?_; focus omega)
      refine callD_pure (pos_ok g ihg) rfl ?_ ?_ ?_ <;> simp only [go_sem, seval, reduceCtorEq, encF_eq]
      refine callD_pure (neg_ok h ihh) rfl ?_ ?_ ?_ <;> simp only [go_sem, seval, reduceCtorEq, encF_eq]
      refine callD_pure (make_ok (gl := gl) true 4 [formF true g, formF false h]) rfl ?_ ?_ ?_ <;> simp only [go_sem, seval, reduceCtorEq, encF_eq, encFs]
      have H := trivial
      refine goB ?_
      first | exact trivial | clear H
      exact cut_none _
  · obtain ⟨g, h, rfl⟩ : ∃ g h, l = [g, h] := len_two (by have : (l.length : Int) = 2 := hal; omega)
    have ihg := ih g (List.mem_cons_self ..)
    have ihh := ih h (List.mem_cons_of_mem _ (List.mem_cons_self ..))
    cases yes with
    | true =>
      have ef : formF true (.mk 7 v [g, h]) = .mk 5 0 [.mk 4 0 [formF true g, formF true h], .mk 4 0 [formF false g, formF false h]] := rfl
      rw [ef]
      have H := trivial
      refine goB ?_
      first | exact trivial | clear H
      refine WK.drawF [⟨false, 0, 0⟩, ⟨false, 0, 2⟩, ⟨false, 0, 2⟩, ⟨false, 0, 2⟩, ⟨false, 0, 0⟩, ⟨false, 0, 3⟩, ⟨false, 0, 3⟩, ⟨false, 0, 3⟩, ⟨true, 0, 0⟩, ⟨true, 0, 0⟩, ⟨true, 0, 0⟩, ⟨true, 0, 0⟩] mixed (by kernel_rfl) ?_
      simp only [go_sem, seval, reduceCtorEq, encFs, encF_eq]
      repeat (with_reducible refine And.intro ?_ ?_; focus omega)
      have H := trivial
      refine goB ?_
      first | exact trivial | clear H
      refine WK.draw [⟨false, 0, 0⟩, ⟨false, 0, 0⟩, ⟨true, 0, 0⟩, ⟨false, 0, 0⟩, ⟨false, 1, 0⟩, ⟨true, 0, 0⟩, ⟨false, 0, 0⟩, ⟨true, 0, 0⟩, ⟨false, 0, 0⟩, ⟨false, 3, 0⟩, ⟨true, 0, 0⟩, ⟨false, 0, 0⟩, ⟨false, 4, 0⟩, ⟨true, 0, 0⟩, ⟨false, 0, 0⟩, ⟨true, 0, 0⟩, ⟨false, 0, 0⟩, ⟨true, 0, 0⟩, ⟨true, 0, 0⟩] mixed (by kernel_rfl) ?_
      simp only [go_sem, seval, reduceCtorEq, encFs, encF_eq]
      repeat (with_reducible refine And.intro ?_ ?_; focus omega)
      refine callD_pure (pos_ok g ihg) rfl ?_ ?_ ?_ <;> simp only [go_sem, seval, reduceCtorEq, encF_eq]
      refine callD_pure (pos_ok h ihh) rfl ?_ ?_ ?_ <;> simp only [go_sem, seval, reduceCtorEq, encF_eq]
      refine callD_pure (make_ok (gl := gl) true 4 [formF true g, formF true h]) rfl ?_ ?_ ?_ <;> simp only [go_sem, seval, reduceCtorEq, encF_eq, encFs]
      refine callD_pure (neg_ok g ihg) rfl ?_ ?_ ?_ <;> simp only [go_sem, seval, reduceCtorEq, encF_eq]
      refine callD_pure (neg_ok h ihh) rfl ?_ ?_ ?_ <;> simp only [go_sem, seval, reduceCtorEq, encF_eq]
      refine callD_pure (make_ok (gl := gl) true 4 [formF false g, formF false h]) rfl ?_ ?_ ?_ <;> simp only [go_sem, seval, reduceCtorEq, encF_eq, encFs]
      refine callD_pure (make_ok (gl := gl) true 5 [.mk 4 0 [formF true g, formF true h], .mk 4 0 [formF false g, formF false h]]) rfl ?_ ?_ ?_ <;> simp only [go_sem, seval, reduceCtorEq, encF_eq, encFs]
      have H := trivial
      refine goB ?_
      first | exact trivial | clear H
      exact cut_none _
    | false =>
      have ef : formF false (.mk 7 v [g, h]) = .mk 5 0 [.mk 4 0 [formF true g, formF false h], .mk 4 0 [formF false g, formF true h]] := rfl
      rw [ef]
      have H := trivial
      refine goB ?_
      first | exact trivial | clear H
      refine WK.drawF [⟨false, 0, 0⟩, ⟨false, 0, 2⟩, ⟨false, 0, 2⟩, ⟨false, 0, 2⟩, ⟨false, 0, 0⟩, ⟨false, 0, 3⟩, ⟨false, 0, 3⟩, ⟨false, 0, 3⟩, ⟨true, 0, 0⟩, ⟨true, 0, 0⟩, ⟨true, 0, 0⟩, ⟨true, 0, 0⟩] mixed (by kernel_rfl) ?_
      simp only [go_sem, seval, reduceCtorEq, encFs, encF_eq]
      repeat (with_reducible refine And.intro ?_ ?_; focus omega)
      have H := trivial
      refine goB ?_
      first | exact trivial | clear H
      refine WK.draw [⟨false, 0, 0⟩, ⟨false, 0, 0⟩, ⟨true, 0, 0⟩, ⟨false, 0, 0⟩, ⟨false, 1, 0⟩, ⟨true, 0, 0⟩, ⟨false, 0, 0⟩, ⟨true, 0, 0⟩, ⟨false, 0, 0⟩, ⟨false, 3, 0⟩, ⟨true, 0, 0⟩, ⟨false, 0, 0⟩, ⟨false, 4, 0⟩, ⟨true, 0, 0⟩, ⟨false, 0, 0⟩, ⟨true, 0, 0⟩, ⟨false, 0, 0⟩, ⟨true, 0, 0⟩, ⟨true, 0, 0⟩] mixed (by kernel_rfl) ?_
      simp only [go_sem, seval, reduceCtorEq, encFs, encF_eq]
      repeat (with_reducible refine And.intro ?_ ?_; focus omega)
      refine callD_pure (pos_ok g ihg) rfl ?_ ?_ ?_ <;> simp only [go_sem, seval, reduceCtorEq, encF_eq]
      refine callD_pure (neg_ok h ihh) rfl ?_ ?_ ?_ <;> simp only [go_sem, seval, reduceCtorEq, encF_eq]
      refine callD_pure (make_ok (gl := gl) true 4 [formF true g, formF false h]) rfl ?_ ?_ ?_ <;> simp only [go_sem, seval, reduceCtorEq, encF_eq, encFs]
      refine callD_pure (neg_ok g ihg) rfl ?_ ?_ ?_ <;> simp only [go_sem, seval, reduceCtorEq, encF_eq]
      refine callD_pure (pos_ok h ihh) rfl ?_ ?_ ?_ <;> simp only [go_sem, seval, reduceCtorEq, encF_eq]
      refine callD_pure (make_ok (gl := gl) true 4 [formF false g, formF true h]) rfl ?_ ?_ ?_ <;> simp only [go_sem, seval, reduceCtorEq, encF_eq, encFs]
      refine callD_pure (make_ok (gl := gl) true 5 [.mk 4 0 [formF true g, formF false h], .mk 4 0 [formF false g, formF true h]]) rfl ?_ ?_ ?_ <;> simp only [go_sem, seval, reduceCtorEq, encF_eq, encFs]
      have H := trivial
      refine goB ?_
      first | exact trivial | clear H
      exact cut_none _
  · obtain ⟨g, rfl⟩ : ∃ g, l = [g] := List.length_eq_one_iff.1 (by have : (l.length : Int) = 1 := hal; omega)
    have ihg := ih g (List.mem_cons_self ..)
    have ef : formF yes (.mk 8 v [g]) = .mk 8 0 [formF yes g] := by cases yes <;> rfl
    rw [ef]
    have H := And.intro @encFs_cs @encF_eq
    refine goB ?_
    first | exact trivial | clear H
    refine callK_x (same_ok g ihg yes 1 _ (by simp only [go_sem, seval, reduceCtorEq]; first | done | omega) (by simp only [go_sem, seval, reduceCtorEq]; first | done | omega)) rfl ?_ ?_ ?_ <;> simp only [go_sem, seval, reduceCtorEq, encF_eq]
    have H := trivial
    refine goB ?_
    first | exact trivial | clear H
    refine callK_pureL (make_ok (gl := gl) true 8 [formF yes g]) rfl ?_ ?_ ?_ <;> simp only [go_sem, seval, reduceCtorEq, encF_eq, encFs]
    have H := trivial
    refine goB ?_
    first | exact trivial | clear H
    exact cut_none _
  · obtain ⟨g, rfl⟩ : ∃ g, l = [g] := List.length_eq_one_iff.1 (by have : (l.length : Int) = 1 := hal; omega)
    have ihg := ih g (List.mem_cons_self ..)
    have ef : formF yes (.mk 9 v [g]) = .mk (fsel yes 9 10) 0 [formF yes g] := by cases yes <;> rfl
    rw [ef]
    have H := trivial
    refine goB ?_
    first | exact trivial | clear H
    refine WK.draw [⟨false, 0, 0⟩, ⟨true, 0, 0⟩, ⟨false, 0, 0⟩, ⟨false, 0, 0⟩, ⟨false, 1, 0⟩, ⟨false, 1, 0⟩, ⟨false, 1, 0⟩, ⟨true, 0, 0⟩, ⟨false, 0, 0⟩, ⟨true, 0, 0⟩, ⟨true, 0, 0⟩] mixed (by kernel_rfl) ?_
    simp only [go_sem, seval, reduceCtorEq, encFs, encF_eq]
    repeat (with_reducible refine And.intro ?_ ?_; focus omega)
    refine callD_x (opc_ok 9 10 yes 1 _ (by simp only [go_sem, seval, reduceCtorEq]; first | done | omega) (by simp only [go_sem, seval, reduceCtorEq]; first | done | omega)) rfl ?_ ?_ ?_ <;> simp only [go_sem, seval, reduceCtorEq]
    refine callD_x (same_ok g ihg yes 1 _ (by simp only [go_sem, seval, reduceCtorEq]; first | done | omega) (by simp only [go_sem, seval, reduceCtorEq]; first | done | omega)) rfl ?_ ?_ ?_ <;> simp only [go_sem, seval, reduceCtorEq, encF_eq]
    refine callD_pure (make_ok (gl := gl) true (fsel yes 9 10) [formF yes g]) rfl ?_ ?_ ?_ <;> simp only [go_sem, seval, reduceCtorEq, encF_eq, encFs]
    have H := trivial
    refine goB ?_
    first | exact trivial | clear H
    exact cut_none _
  · obtain ⟨g, rfl⟩ : ∃ g, l = [g] := List.length_eq_one_iff.1 (by have : (l.length : Int) = 1 := hal; omega)
    have ihg := ih g (List.mem_cons_self ..)
    have ef : formF yes (.mk 10 v [g]) = .mk (fsel yes 10 9) 0 [formF yes g] := by cases yes <;> rfl
    rw [ef]
    have H := trivial
    refine goB ?_
    first | exact trivial | clear H
    refine WK.draw [⟨false, 0, 0⟩, ⟨true, 0, 0⟩, ⟨false, 0, 0⟩, ⟨false, 0, 0⟩, ⟨false, 1, 0⟩, ⟨false, 1, 0⟩, ⟨false, 1, 0⟩, ⟨true, 0, 0⟩, ⟨false, 0, 0⟩, ⟨true, 0, 0⟩, ⟨true, 0, 0⟩] mixed (by kernel_rfl) ?_
    simp only [go_sem, seval, reduceCtorEq, encFs, encF_eq]
    repeat (with_reducible refine And.intro ?_ ?_; focus omega)
    refine callD_x (opc_ok 10 9 yes 1 _ (by simp only [go_sem, seval, reduceCtorEq]; first | done | omega) (by simp only [go_sem, seval, reduceCtorEq]; first | done | omega)) rfl ?_ ?_ ?_ <;> simp only [go_sem, seval, reduceCtorEq]
    refine callD_x (same_ok g ihg yes 1 _ (by simp only [go_sem, seval, reduceCtorEq]; first | done | omega) (by simp only [go_sem, seval, reduceCtorEq]; first | done | omega)) rfl ?_ ?_ ?_ <;> simp only [go_sem, seval, reduceCtorEq, encF_eq]
    refine callD_pure (make_ok (gl := gl) true (fsel yes 10 9) [formF yes g]) rfl ?_ ?_ ?_ <;> simp only [go_sem, seval, reduceCtorEq, encF_eq, encFs]
    have H := trivial
    refine goB ?_
    first | exact trivial | clear H
    exact cut_none _
  · obtain ⟨g, h, rfl⟩ : ∃ g h, l = [g, h] := len_two (by have : (l.length : Int) = 2 := hal; omega)
    have ihg := ih g (List.mem_cons_self ..)
    have ihh := ih h (List.mem_cons_of_mem _ (List.mem_cons_self ..))
    have ef : formF yes (.mk 11 v [g, h]) = .mk (fsel yes 11 12) 0 [formF yes g, formF yes h] := by cases yes <;> rfl
    rw [ef]
    have H := trivial
    refine goB ?_
    first | exact trivial | clear H
    refine WK.drawF [⟨false, 0, 0⟩, ⟨false, 0, 2⟩, ⟨false, 0, 2⟩, ⟨false, 0, 2⟩, ⟨false, 0, 0⟩, ⟨false, 0, 3⟩, ⟨false, 0, 3⟩, ⟨false, 0, 3⟩, ⟨true, 0, 0⟩, ⟨true, 0, 0⟩, ⟨true, 0, 0⟩, ⟨true, 0, 0⟩] mixed (by kernel_rfl) ?_
    simp only [go_sem, seval, reduceCtorEq, encFs, encF_eq]
    repeat (with_reducible refine And.intro ?_ ?_; focus omega)
    have H := trivial
    refine goB ?_
    first | exact trivial | clear H
    refine WK.draw [⟨false, 0, 0⟩, ⟨true, 0, 0⟩, ⟨false, 0, 0⟩, ⟨false, 1, 0⟩, ⟨true, 0, 0⟩, ⟨false, 0, 0⟩, ⟨false, 2, 0⟩, ⟨true, 0, 0⟩, ⟨false, 0, 0⟩, ⟨true, 0, 0⟩, ⟨true, 0, 0⟩] mixed (by kernel_rfl) ?_
    simp only [go_sem, seval, reduceCtorEq, encFs, encF_eq]
    repeat (with_reducible refine And.intro ?_ ?_; focus omega)
    refine callD_x (opc_ok 11 12 yes 1 _ (by simp only [go_sem, seval, reduceCtorEq]; first | done | omega) (by simp only [go_sem, seval, reduceCtorEq]; first | done | omega)) rfl ?_ ?_ ?_ <;> simp only [go_sem, seval, reduceCtorEq]
    refine callD_x (same_ok g ihg yes 1 _ (by simp only [go_sem, seval, reduceCtorEq]; first | done | omega) (by simp only [go_sem, seval, reduceCtorEq]; first | done | omega)) rfl ?_ ?_ ?_ <;> simp only [go_sem, seval, reduceCtorEq, encF_eq]
    refine callD_x (same_ok h ihh yes 1 _ (by simp only [go_sem, seval, reduceCtorEq]; first | done | omega) (by simp only [go_sem, seval, reduceCtorEq]; first | done | omega)) rfl ?_ ?_ ?_ <;> simp only [go_sem, seval, reduceCtorEq, encF_eq]
    refine callD_pure (make_ok (gl := gl) true (fsel yes 11 12) [formF yes g, formF yes h]) rfl ?_ ?_ ?_ <;> simp only [go_sem, seval, reduceCtorEq, encF_eq, encFs]
    have H := trivial
    refine goB ?_
    first | exact trivial | clear H
    exact cut_none _
  · obtain ⟨g, h, rfl⟩ : ∃ g h, l = [g, h] := len_two (by have : (l.length : Int) = 2 := hal; omega)
    have ihg := ih g (List.mem_cons_self ..)
    have ihh := ih h (List.mem_cons_of_mem _ (List.mem_cons_self ..))
    have ef : formF yes (.mk 12 v [g, h]) = .mk (fsel yes 12 11) 0 [formF yes g, formF yes h] := by cases yes <;> rfl
    rw [ef]
    have H := trivial
    refine goB ?_
    first | exact trivial | clear H
    refine WK.drawF [⟨false, 0, 0⟩, ⟨false, 0, 2⟩, ⟨false, 0, 2⟩, ⟨false, 0, 2⟩, ⟨false, 0, 0⟩, ⟨false, 0, 3⟩, ⟨false, 0, 3⟩, ⟨false, 0, 3⟩, ⟨true, 0, 0⟩, ⟨true, 0, 0⟩, ⟨true, 0, 0⟩, ⟨true, 0, 0⟩] mixed (by kernel_rfl) ?_
    simp only [go_sem, seval, reduceCtorEq, encFs, encF_eq]
    repeat (with_reducible refine And.intro ?_ ?_; focus omega)
    have H := trivial
    refine goB ?_
    first | exact trivial | clear H
    refine WK.draw [⟨false, 0, 0⟩, ⟨true, 0, 0⟩, ⟨false, 0, 0⟩, ⟨false, 1, 0⟩, ⟨true, 0, 0⟩, ⟨false, 0, 0⟩, ⟨false, 2, 0⟩, ⟨true, 0, 0⟩, ⟨false, 0, 0⟩, ⟨true, 0, 0⟩, ⟨true, 0, 0⟩] mixed (by kernel_rfl) ?_
    simp only [go_sem, seval, reduceCtorEq, encFs, encF_eq]
    repeat (with_reducible refine And.intro ?_ ?_; focus omega)
    refine callD_x (opc_ok 12 11 yes 1 _ (by simp only [go_sem, seval, reduceCtorEq]; first | done | omega) (by simp only [go_sem, seval, reduceCtorEq]; first | done | omega)) rfl ?_ ?_ ?_ <;> simp only [go_sem, seval, reduceCtorEq]
    refine callD_x (same_ok g ihg yes 1 _ (by simp only [go_sem, seval, reduceCtorEq]; first | done | omega) (by simp only [go_sem, seval, reduceCtorEq]; first | done | omega)) rfl ?_ ?_ ?_ <;> simp only [go_sem, seval, reduceCtorEq, encF_eq]
    refine callD_x (same_ok h ihh yes 1 _ (by simp only [go_sem, seval, reduceCtorEq]; first | done | omega) (by simp only [go_sem, seval, reduceCtorEq]; first | done | omega)) rfl ?_ ?_ ?_ <;> simp only [go_sem, seval, reduceCtorEq, encF_eq]
    refine callD_pure (make_ok (gl := gl) true (fsel yes 12 11) [formF yes g, formF yes h]) rfl ?_ ?_ ?_ <;> simp only [go_sem, seval, reduceCtorEq, encF_eq, encFs]
    have H := trivial
    refine goB ?_
    first | exact trivial | clear H
    exact cut_none _
  · obtain ⟨g, h, rfl⟩ : ∃ g h, l = [g, h] := len_two (by have : (l.length : Int) = 2 := hal; omega)
    have ihg := ih g (List.mem_cons_self ..)
    have ihh := ih h (List.mem_cons_of_mem _ (List.mem_cons_self ..))
    cases yes with
    | true =>
      have ef : formF true (.mk 13 v [g, h]) = .mk 13 0 [formF true g, formF true h] := rfl
      rw [ef]
      have H := trivial
      refine goB ?_
      first | exact trivial | clear H
      refine WK.drawF [⟨false, 0, 0⟩, ⟨false, 0, 2⟩, ⟨false, 0, 2⟩, ⟨false, 0, 2⟩, ⟨false, 0, 0⟩, ⟨false, 0, 3⟩, ⟨false, 0, 3⟩, ⟨false, 0, 3⟩, ⟨true, 0, 0⟩, ⟨true, 0, 0⟩, ⟨true, 0, 0⟩, ⟨true, 0, 0⟩] mixed (by kernel_rfl) ?_
      simp only [go_sem, seval, reduceCtorEq, encFs, encF_eq]
      repeat (with_reducible refine And.intro ?_ ?_; focus omega)
      have H := trivial
      refine goB ?_
      first | exact trivial | clear H
      refine WK.draw [⟨false, 0, 0⟩, ⟨false, 0, 0⟩, ⟨true, 0, 0⟩, ⟨false, 0, 0⟩, ⟨false, 1, 0⟩, ⟨true, 0, 0⟩, ⟨false, 0, 0⟩, ⟨true, 0, 0⟩, ⟨true, 0, 0⟩] mixed (by kernel_rfl) ?_
      simp only [go_sem, seval, reduceCtorEq, encFs, encF_eq]
      repeat (with_reducible refine And.intro ?_ ?_; focus omega)
      refine callD_pure (pos_ok g ihg) rfl ?_ ?_ ?_ <;> simp only [go_sem, seval, reduceCtorEq, encF_eq]
      refine callD_pure (pos_ok h ihh) rfl ?_ ?_ ?_ <;> simp only [go_sem, seval, reduceCtorEq, encF_eq]
      refine callD_pure (make_ok (gl := gl) true 13 [formF true g, formF true h]) rfl ?_ ?_ ?_ <;> simp only [go_sem, seval, reduceCtorEq, encF_eq, encFs]
      have H := trivial
      refine goB ?_
      first | exact trivial | clear H
      exact cut_none _
    | false =>
      have ef : formF false (.mk 13 v [g, h]) = .mk 11 0 [.mk 4 0 [formF true g, formF false h], .mk 4 0 [formF false g, formF false h]] := rfl
      rw [ef]
      have H := trivial
      refine goB ?_
      first | exact trivial | clear H
      refine WK.drawF [⟨false, 0, 0⟩, ⟨false, 0, 2⟩, ⟨false, 0, 2⟩, ⟨false, 0, 2⟩, ⟨false, 0, 0⟩, ⟨false, 0, 3⟩, ⟨false, 0, 3⟩, ⟨false, 0, 3⟩, ⟨true, 0, 0⟩, ⟨true, 0, 0⟩, ⟨true, 0, 0⟩, ⟨true, 0, 0⟩] mixed (by kernel_rfl) ?_
      simp only [go_sem, seval, reduceCtorEq, encFs, encF_eq]
      repeat (with_reducible refine And.intro ?_ ?_; focus omega)
      have H := trivial
      refine goB ?_
      first | exact trivial | clear H
      refine WK.draw [⟨false, 0, 0⟩, ⟨false, 0, 0⟩, ⟨true, 0, 0⟩, ⟨false, 0, 0⟩, ⟨false, 1, 0⟩, ⟨true, 0, 0⟩, ⟨false, 0, 0⟩, ⟨true, 0, 0⟩, ⟨false, 0, 0⟩, ⟨false, 3, 0⟩, ⟨true, 0, 0⟩, ⟨false, 0, 0⟩, ⟨false, 4, 0⟩, ⟨true, 0, 0⟩, ⟨false, 0, 0⟩, ⟨true, 0, 0⟩, ⟨false, 0, 0⟩, ⟨true, 0, 0⟩, ⟨true, 0, 0⟩] mixed (by kernel_rfl) ?_
      simp only [go_sem, seval, reduceCtorEq, encFs, encF_eq]
      repeat (with_reducible refine And.intro ?_ ?_; focus omega)
      refine callD_pure (pos_ok g ihg) rfl ?_ ?_ ?_ <;> simp only [go_sem, seval, reduceCtorEq, encF_eq]
      refine callD_pure (neg_ok h ihh) rfl ?_ ?_ ?_ <;> simp only [go_sem, seval, reduceCtorEq, encF_eq]
      refine callD_pure (make_ok (gl := gl) true 4 [formF true g, formF false h]) rfl ?_ ?_ ?_ <;> simp only [go_sem, seval, reduceCtorEq, encF_eq, encFs]
      refine callD_pure (neg_ok g ihg) rfl ?_ ?_ ?_ <;> simp only [go_sem, seval, reduceCtorEq, encF_eq]
      refine callD_pure (neg_ok h ihh) rfl ?_ ?_ ?_ <;> simp only [go_sem, seval, reduceCtorEq, encF_eq]
      refine callD_pure (make_ok (gl := gl) true 4 [formF false g, formF false h]) rfl ?_ ?_ ?_ <;> simp only [go_sem, seval, reduceCtorEq, encF_eq, encFs]
      refine callD_pure (make_ok (gl := gl) true 11 [.mk 4 0 [formF true g, formF false h], .mk 4 0 [formF false g, formF false h]]) rfl ?_ ?_ ?_ <;> simp only [go_sem, seval, reduceCtorEq, encF_eq, encFs]
      have H := trivial
      refine goB ?_
      first | exact trivial | clear H
      exact cut_none _
theorem form_ok (n : Int) (f : Fm) : ShorF f → (∀ g ∈ nodesF f, okNode n g = true) → FormOK gl f := by
  induction f using Fm.ind with
  | h o v l ih =>
    intro hs hok
    have hs' := hs
    simp only [ShorF] at hs'
    exact form_k n o v l (hok _ (nodes_self _)) (copy_ok _ hs) fun g hg => ih g hg (hs'.2.mem g hg) fun x hx => hok x (by rw [nodesF]; exact List.mem_cons_of_mem _ (nodesL_sub hg hx))
end
end Go.Sx
