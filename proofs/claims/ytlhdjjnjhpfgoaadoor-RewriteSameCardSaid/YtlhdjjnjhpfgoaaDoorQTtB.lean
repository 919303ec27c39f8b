import Derived.Test.YtlhdjjnjhpfgoaaDoorQTsE
import Derived.Test.YtlhdjjnjhpfgoaaDoorQTrL
import Derived.Test.YtlhdjjnjhpfgoaaDoorQSxK
import Derived.Test.YtlhdjjnjhpfgoaaDoorLgAv
import Derived.Test.YtlhdjjnjhpfgoaaDoorLgAw
set_option maxRecDepth 100000
set_option maxHeartbeats 4000000
set_option linter.unusedSimpArgs false
set_option linter.unusedVariables false
set_option linter.unnecessarySimpa false
namespace Go.Sx
open Go Go.Lg Go.Proofs
theorem b7 {gl : GL} : Body (C gl).P 7 Tryd.f7 (codeOf Tryd.f7) := ⟨Tryd.func7, by kernel_rfl, by kernel_rfl⟩
theorem b21 {gl : GL} : Body (C gl).P 21 Tryd.f21 (codeOf Tryd.f21) := ⟨Tryd.func21, by kernel_rfl, by kernel_rfl⟩
theorem b24 {gl : GL} : Body (C gl).P 24 Tryd.f24 (codeOf Tryd.f24) := ⟨Tryd.func24, by kernel_rfl, by kernel_rfl⟩
/-! ## Push -/
def PshSt (p : Nat) (σ : Sto) : Prop := p < σ.next ∧ σ.get p = some (.box [.fn 21 [.ptr p 0]])
theorem pshSt_eq (p : Nat) (σ : Sto) : PshSt p σ = (p < σ.next ∧ σ.get p = some (.box [.fn 21 [.ptr p 0]])) := (rfl)
section
variable {gl : GL}
theorem psh_k (d : Nat) (p : Nat) (o v : Int) (l : List Fm) (n : Nat) (hn : n < 100000) (hA : okA (.mk o v l))
    (ih : ∀ g (m : Nat) σ, CtrX (C gl) 21 [encF g, .int .i64 m] [.ptr p 0] σ (g ∈ l ∧ m ≤ n + 1 ∧ PshSt p σ) (encF (pshF d g m)) σ) (σ : Sto) (hσ : PshSt p σ) :
    CallX (C gl) 21 ([encF (.mk o v l), .int .i64 n] ++ [.ptr p 0]) σ (encF (pshF (d + 1) (.mk o v l) n)) σ := by
  refine callX_of b21 (by simp [Tryd.ntmps21]) ?_
  obtain ⟨lp, gp⟩ := hσ
  have hsh := shor_okA _ hA
  have hlen := hsh.1
  have nz_p : (p = σ.next) = False := by simp; omega
  have nx_p : ∀ j, (p = σ.next + j) = False := fun j => by simp; omega
  refine W.of ?_
  rw [Tryd.ntmps21]
  simp only [toK, codeOf, Tryd.f21, go_sem, seval, reduceCtorEq]
  rw [pshF]
  by_cases h2 : o = 2
  · subst h2
    rw [if_pos rfl]
    have hn' : (n : Int) < 9223372036854775807 := by omega
    have H := And.intro @nz_p (And.intro @nx_p (And.intro @gp (And.intro @lp @hsh)))
    refine autoA ?_
    repeat' (first | (refine WK.draw (ops := #[_, _, _, _, _, _, _, _, _]) [dq 0 0, dq 0 0, dq 0 0, dq 0 0, dq 0 0, dq 0 0, dq 0 0, dm, dm] mixed (by kernel_rfl) ?_; refine autoA ?_) | (refine WK.draw (ops := #[_, _, _, _, _, _, _, _, _, _]) [dq 0 0, dq 0 1, dq 0 0, dq 0 0, dq 0 0, dm, dq 0 0, dm, dq 0 0, dm] mixed (by kernel_rfl) ?_; refine autoA ?_))
    try exact trivial
    refine WK.rangeX (n) [2, 3, 5, 6] [] (fun i => []) (fun i => (((σ.add (.box [.int .i64 2, .int .i64 v, .list false (encFs l)])).add (.box [.int .i64 0, .int .i64 0, .list true []])).add (.box [.int .i64 (nxtN i (.mk 2 v l)).op, .int .i64 (nxtN i (.mk 2 v l)).var, .list false (encFs (nxtN i (.mk 2 v l)).args)]))) (by omega) (by decide) (by simp only [go_sem, seval, reduceCtorEq, nz_p, nx_p, gp, lp]) (by simp only [go_sem, seval, reduceCtorEq, nz_p, nx_p, gp, lp]) (by simp only [go_sem, seval, reduceCtorEq, nz_p, nx_p, gp, lp, List.take_zero]) (by first | rfl | (simp only [go_sem, seval, reduceCtorEq, nz_p, nx_p, gp, lp]; done) | (refine Sto.ext' (by simp only [go_sem, seval, reduceCtorEq, nz_p, nx_p, gp, lp]) (fun i => ?_); simp only [go_sem, seval, reduceCtorEq, nz_p, nx_p, gp, lp]; repeat' split; all_goals (first | rfl | omega | simp_all))) ?_ ?_
    · intro i hi
      have e : nxtN (i + 1) (.mk 2 v l) = .mk 8 0 [nxtN i (.mk 2 v l)] := rfl
      have H := And.intro @nz_p (And.intro @nx_p (And.intro @gp @lp))
      refine autoA ?_
      repeat' (first | (refine WK.draw (ops := #[_, _, _, _, _, _, _, _, _]) [dq 0 0, dq 0 0, dq 0 0, dq 0 0, dq 0 0, dq 0 0, dq 0 0, dm, dm] mixed (by kernel_rfl) ?_; refine autoA ?_) | (refine WK.draw (ops := #[_, _, _, _, _, _, _, _, _, _]) [dq 0 0, dq 0 1, dq 0 0, dq 0 0, dq 0 0, dm, dq 0 0, dm, dq 0 0, dm] mixed (by kernel_rfl) ?_; refine autoA ?_))
      try exact trivial
      simp only [e, fm_op, fm_var, fm_args]
      exact cutA
    · have H := And.intro @nz_p (And.intro @nx_p (And.intro @gp @lp))
      refine autoA ?_
      repeat' (first | (refine WK.draw (ops := #[_, _, _, _, _, _, _, _, _]) [dq 0 0, dq 0 0, dq 0 0, dq 0 0, dq 0 0, dq 0 0, dq 0 0, dm, dm] mixed (by kernel_rfl) ?_; refine autoA ?_) | (refine WK.draw (ops := #[_, _, _, _, _, _, _, _, _, _]) [dq 0 0, dq 0 1, dq 0 0, dq 0 0, dq 0 0, dm, dq 0 0, dm, dq 0 0, dm] mixed (by kernel_rfl) ?_; refine autoA ?_))
      try exact trivial
      exact finX cutA
  rw [if_neg h2]
  by_cases h8 : o = 8
  · subst h8
    rw [if_pos rfl]
    have w1 : IntKind.i64.wrap ((n : Int) + 1) = ((n + 1 : Nat) : Int) := by rw [wrap_lt (by omega) (by omega)]; omega
    obtain ⟨g, rfl⟩ : ∃ g, l = [g] := by
      have := hA _ (nodes_self _)
      rw [okNode_eq] at this
      simp only [Bool.and_eq_true] at this
      exact args1' (of_decide_eq_true this.1.2)
    have hg : g ∈ [g] := List.mem_singleton_self g
    have hnn : n + 1 ≤ n + 1 := Nat.le_refl _
    rw [List.getD_cons_zero]
    have H := And.intro @nz_p (And.intro @nx_p (And.intro @gp (And.intro @lp (And.intro @w1 (And.intro @hg (And.intro @hnn @pshSt_eq))))))
    refine autoA ?_
    repeat' (first | (refine WK.draw (ops := #[_, _, _, _, _, _, _, _, _]) [dq 0 0, dq 0 0, dq 0 0, dq 0 0, dq 0 0, dq 0 0, dq 0 0, dm, dm] mixed (by kernel_rfl) ?_; refine autoA ?_) | (refine WK.draw (ops := #[_, _, _, _, _, _, _, _, _, _]) [dq 0 0, dq 0 1, dq 0 0, dq 0 0, dq 0 0, dm, dq 0 0, dm, dq 0 0, dm] mixed (by kernel_rfl) ?_; refine autoA ?_))
    try exact trivial
    exact finX cutA
  rw [if_neg h8]
  have q2 : (o == 2) = false := beq_eq_false_iff_ne.2 h2
  have q8 : (o == 8) = false := beq_eq_false_iff_ne.2 h8
  have H := And.intro @nz_p (And.intro @nx_p (And.intro @gp (And.intro @lp (And.intro @q2 @q8))))
  refine autoA ?_
  repeat' (first | (refine WK.draw (ops := #[_, _, _, _, _, _, _, _, _]) [dq 0 0, dq 0 0, dq 0 0, dq 0 0, dq 0 0, dq 0 0, dq 0 0, dm, dm] mixed (by kernel_rfl) ?_; refine autoA ?_) | (refine WK.draw (ops := #[_, _, _, _, _, _, _, _, _, _]) [dq 0 0, dq 0 1, dq 0 0, dq 0 0, dq 0 0, dm, dq 0 0, dm, dq 0 0, dm] mixed (by kernel_rfl) ?_; refine autoA ?_))
  try exact trivial
  refine WK.ownBox0 (σ.next + 2) 2 3 (by simp only [go_sem, seval, reduceCtorEq, nz_p, nx_p, gp, lp]; rfl) (by rfl) ?_
  simp only [go_sem, seval, reduceCtorEq, nz_p, nx_p, gp, lp]
  refine WK.rangeX (l.length) [1, 2, 3, 5, 7, 38] [] (fun j => []) (fun j => (((σ.add (.box [.int .i64 o, .int .i64 v, .list false (encFs l)])).add (.box [.int .i64 0, .int .i64 0, .list true []])).add (.box [.int .i64 o, .int .i64 0, .own (σ.next + 3) (encFs ((l.take j).map fun g => pshF d g n))])).add (.tok 3 j)) (by omega) (by decide) (by simp only [go_sem, seval, reduceCtorEq, nz_p, nx_p, gp, lp]) (by simp only [go_sem, seval, reduceCtorEq, nz_p, nx_p, gp, lp]) (by simp only [go_sem, seval, reduceCtorEq, nz_p, nx_p, gp, lp, List.take_zero]) (by first | rfl | (simp only [go_sem, seval, reduceCtorEq, nz_p, nx_p, gp, lp]; done) | (refine Sto.ext' (by simp only [go_sem, seval, reduceCtorEq, nz_p, nx_p, gp, lp]) (fun i => ?_); simp only [go_sem, seval, reduceCtorEq, nz_p, nx_p, gp, lp]; repeat' split; all_goals (first | rfl | omega | simp_all))) ?_ ?_
  · intro j hj
    have hnn : n ≤ n + 1 := Nat.le_succ n
    have H := And.intro @nz_p (And.intro @nx_p (And.intro @gp (And.intro @lp (And.intro @hj (And.intro @hnn @pshSt_eq)))))
    refine autoA ?_
    repeat' (first | (refine WK.draw (ops := #[_, _, _, _, _, _, _, _, _]) [dq 0 0, dq 0 0, dq 0 0, dq 0 0, dq 0 0, dq 0 0, dq 0 0, dm, dm] mixed (by kernel_rfl) ?_; refine autoA ?_) | (refine WK.draw (ops := #[_, _, _, _, _, _, _, _, _, _]) [dq 0 0, dq 0 1, dq 0 0, dq 0 0, dq 0 0, dm, dq 0 0, dm, dq 0 0, dm] mixed (by kernel_rfl) ?_; refine autoA ?_))
    try exact trivial
    have H := And.intro @nz_p (And.intro @nx_p (And.intro @gp @lp))
    exact cutA
  · simp only [go_sem, seval, reduceCtorEq, nz_p, nx_p, gp, lp, List.take_length]
    have H := And.intro @nz_p (And.intro @nx_p (And.intro @gp @lp))
    refine autoA ?_
    repeat' (first | (refine WK.draw (ops := #[_, _, _, _, _, _, _, _, _]) [dq 0 0, dq 0 0, dq 0 0, dq 0 0, dq 0 0, dq 0 0, dq 0 0, dm, dm] mixed (by kernel_rfl) ?_; refine autoA ?_) | (refine WK.draw (ops := #[_, _, _, _, _, _, _, _, _, _]) [dq 0 0, dq 0 1, dq 0 0, dq 0 0, dq 0 0, dm, dq 0 0, dm, dq 0 0, dm] mixed (by kernel_rfl) ?_; refine autoA ?_))
    try exact trivial
    exact finX cutA
theorem psh_ok (p : Nat) : ∀ (d : Nat) (f : Fm) (n : Nat), nN f ≤ d → n + d < 100000 → okA f → ∀ σ, PshSt p σ → CallX (C gl) 21 ([encF f, .int .i64 n] ++ [.ptr p 0]) σ (encF (pshF d f n)) σ
  | 0, f, n, h, _, _ => by have := nN_pos f; omega
  | d + 1, .mk o v l, n, h, hn, hA => by
    intro σ hσ
    exact psh_k d p o v l n (by omega) hA (fun g m σ => ⟨fun hh => psh_ok p d g m (by have := nN_sub (o := o) (v := v) hh.1; omega) (by omega) (okA_sub hA hh.1) σ hh.2.2⟩) σ hσ
def fitS (f : Fm) : Fm × Int := if validF f 6 = true then (f, 0) else (fz, 3)
theorem fit_ok (har : gl.at' 0 = arityA) (f : Fm) (hs : Shrt f) : PCall (C gl) 24 [encF f] (.tup [encF (fitS f).1, .int .i64 (fitS f).2]) := by
  refine pcallX (callX_of b24 (by simp [Tryd.ntmps24]) ?_) (by simp only [AllCl, cl_encF, and_true]) (by simp only [cl_tup, AllCl, cl_encF, cl_int, and_true])
  have hva : Ctr (C gl) 20 [encF f, .int .i64 6] True (.bool (validF f 6)) := ⟨fun _ => valid_ok har f hs 6⟩
  refine W.of ?_
  rw [Tryd.ntmps24]
  simp only [toK, codeOf, Tryd.f24, go_sem, seval, reduceCtorEq]
  cases hv : validF f 6 with
  | false =>
    have H := @hv
    refine autoA ?_
    try exact trivial
    exact finX cutA (by first | (simp only [go_sem, seval, reduceCtorEq, fitS, hv, encF_fold, encF_fold0, Fm.eta, encFs_fold1, encFs_fold2, encFs_fold3]; done) | (simp only [go_sem, seval, reduceCtorEq, fitS, hv, encF_fold, encF_fold0, Fm.eta, encFs_fold1, encFs_fold2, encFs_fold3]; rfl))
  | true =>
    have H := @hv
    refine autoA ?_
    try exact trivial
    exact finX cutA (by first | (simp only [go_sem, seval, reduceCtorEq, fitS, hv, encF_fold, encF_fold0, Fm.eta, encFs_fold1, encFs_fold2, encFs_fold3]; done) | (simp only [go_sem, seval, reduceCtorEq, fitS, hv, encF_fold, encF_fold0, Fm.eta, encFs_fold1, encFs_fold2, encFs_fold3]; rfl))
def pshS (f : Fm) : Fm × Int := if validF f 6 = true then fitS (pshF (nN f) f 0) else (fz, 1)
end
end Go.Sx

set_option maxRecDepth 100000
set_option maxHeartbeats 4000000
set_option linter.unusedSimpArgs false
set_option linter.unusedVariables false
set_option linter.unnecessarySimpa false
namespace Go.Sx
open Go Go.Lg Go.Proofs
theorem b3 {gl : GL} : Body (C gl).P 3 Tryd.f3 (codeOf Tryd.f3) := ⟨Tryd.func3, by kernel_rfl, by kernel_rfl⟩
theorem nxt_ok {f : Fm} (h : okA f) : ∀ n, okA (nxtN n f)
  | 0 => h
  | n + 1 => okA_iff.2 ⟨rfl, fun x hx => by rw [List.mem_singleton] at hx; subst hx; exact nxt_ok h n⟩
theorem okA_psh : ∀ (d : Nat) (f : Fm) (n : Nat), nN f ≤ d → okA f → okA (pshF d f n)
  | 0, f, n, hd, _ => by have := nN_pos f; omega
  | d + 1, .mk o v l, n, hd, hA => by
    have hok := hA _ (nodes_self _)
    have ih' : ∀ g ∈ l, ∀ n, okA (pshF d g n) := fun g hg n => okA_psh d g n (by have := nN_sub (o := o) (v := v) hg; omega) (okA_sub hA hg)
    rw [pshF]
    by_cases h2 : o = 2
    · rw [if_pos h2]; exact nxt_ok hA n
    rw [if_neg h2]
    by_cases h8 : o = 8
    · rw [if_pos h8]
      subst h8
      rw [okNode_eq] at hok
      simp only [Bool.and_eq_true] at hok
      obtain ⟨⟨⟨ho1, ho2⟩, hal⟩, hv⟩ := hok
      replace ho1 := of_decide_eq_true ho1
      replace ho2 := of_decide_eq_true ho2
      replace hal := of_decide_eq_true hal
      obtain ⟨g, rfl⟩ := args1' (l := l) hal
      exact ih' g (by simp) (n + 1)
    · rw [if_neg h8]
      refine okA_iff.2 ⟨?_, fun x hx => ?_⟩
      · rw [okNode_eq] at hok ⊢
        rw [if_neg h2] at hok ⊢
        rw [List.length_map]
        simp only [Bool.and_eq_true] at hok ⊢
        exact ⟨hok.1, by decide⟩
      · obtain ⟨g, hg, rfl⟩ := List.mem_map.1 hx
        exact ih' g hg n
mutual
def pshdF : Fm → Bool
  | .mk o _ l => (!(o == 8) || (let a := (l.getD 0 fz).op; a == 0 || a == 1 || a == 2 || a == 8)) && pshdL l
def pshdL : List Fm → Bool
  | [] => true
  | f :: l => pshdF f && pshdL l
end
section
variable {gl : GL}
theorem wPush_ok (har : gl.at' 0 = arityA) (f : Fm) (hs : Shrt f) : PCall (C gl) 7 [encF f] (.tup [encF (pshS f).1, .int .i64 (pshS f).2]) := by
  refine pcallX (callX_of b7 (by simp [Tryd.ntmps7]) ?_) (by simp only [AllCl, cl_encF, and_true]) (by simp only [cl_tup, AllCl, cl_encF, cl_int, and_true])
  have hva : Ctr (C gl) 20 [encF f, .int .i64 6] True (.bool (validF f 6)) := ⟨fun _ => valid_ok har f hs 6⟩
  refine W.of ?_
  rw [Tryd.ntmps7]
  simp only [toK, codeOf, Tryd.f7, go_sem, seval, reduceCtorEq]
  cases hv : validF f 6 with
  | false =>
    have H := @hv
    refine autoA ?_
    try exact trivial
    exact finX cutA (by first | (simp only [go_sem, seval, reduceCtorEq, pshS, hv, encF_fold, encF_fold0, Fm.eta, encFs_fold1, encFs_fold2, encFs_fold3]; done) | (simp only [go_sem, seval, reduceCtorEq, pshS, hv, encF_fold, encF_fold0, Fm.eta, encFs_fold1, encFs_fold2, encFs_fold3]; rfl))
  | true =>
    have hA := (valid_both hv).2
    have hn : nN f ≤ 60 := ((validF_iff f 6).1 hv).2.2.1
    have hA2 := okA_psh (nN f) f 0 (Nat.le_refl _) hA
    have hf : Ctr (C gl) 24 [encF (pshF (nN f) f 0)] True (.tup [encF (fitS (pshF (nN f) f 0)).1, .int .i64 (fitS (pshF (nN f) f 0)).2]) := ⟨fun _ => fit_ok har _ (shrt_of_shor _ (shor_okA _ hA2))⟩
    have hp : ∀ σ, CtrX (C gl) 21 [encF f, .int .i64 0] [.ptr 2 0] σ (PshSt 2 σ) (encF (pshF (nN f) f 0)) σ := fun σ => ⟨fun h => psh_ok 2 (nN f) f 0 (Nat.le_refl _) (by omega) hA σ h⟩
    have H := And.intro @hv @pshSt_eq
    refine autoA ?_
    try exact trivial
    exact finX cutA (by first | (simp only [go_sem, seval, reduceCtorEq, pshS, hv, encF_fold, encF_fold0, Fm.eta, encFs_fold1, encFs_fold2, encFs_fold3]; done) | (simp only [go_sem, seval, reduceCtorEq, pshS, hv, encF_fold, encF_fold0, Fm.eta, encFs_fold1, encFs_fold2, encFs_fold3]; rfl))
theorem valid_nN {f : Fm} (hA : okA f) : validF f 6 = decide (nN f ≤ 60) := by
  rw [Bool.eq_iff_iff, validF_iff, decide_eq_true_eq]
  exact ⟨fun h => h.2.2.1, fun h => ⟨by decide, by decide, h, hA⟩⟩
end
end Go.Sx
