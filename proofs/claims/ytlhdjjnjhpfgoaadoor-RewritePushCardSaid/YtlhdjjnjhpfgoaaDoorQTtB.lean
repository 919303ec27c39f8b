import Derived.Test.YtlhdjjnjhpfgoaaDoorQTsE
import Derived.Test.YtlhdjjnjhpfgoaaDoorQTrL
import Derived.Test.YtlhdjjnjhpfgoaaDoorQSxK
import Derived.Test.YtlhdjjnjhpfgoaaDoorLgAv
import Derived.Test.YtlhdjjnjhpfgoaaDoorLgAw
set_option maxRecDepth 100000
set_option maxHeartbeats 4000000
set_option linter.unusedSimpArgs false
set_option linter.unusedVariables false
set_option linter.unnecessarySimpa false
namespace Go.Sx
open Go Go.Lg Go.Proofs
theorem b7 {gl : GL} : Body (C gl).P 7 Tryd.f7 (codeOf Tryd.f7) := ⟨Tryd.func7, by kernel_rfl, by kernel_rfl⟩
theorem b21 {gl : GL} : Body (C gl).P 21 Tryd.f21 (codeOf Tryd.f21) := ⟨Tryd.func21, by kernel_rfl, by kernel_rfl⟩
theorem b24 {gl : GL} : Body (C gl).P 24 Tryd.f24 (codeOf Tryd.f24) := ⟨Tryd.func24, by kernel_rfl, by kernel_rfl⟩
theorem b9 {gl : GL} : Body (C gl).P 9 Tryd.f9 (codeOf Tryd.f9) := ⟨Tryd.func9, by kernel_rfl, by kernel_rfl⟩
theorem b10 {gl : GL} : Body (C gl).P 10 Tryd.f10 (codeOf Tryd.f10) := ⟨Tryd.func10, by kernel_rfl, by kernel_rfl⟩
/-! ## Push -/
def PshSt (p : Nat) (σ : Sto) : Prop := p < σ.next ∧ σ.get p = some (.box [.fn 21 [.ptr p 0]])
theorem pshSt_eq (p : Nat) (σ : Sto) : PshSt p σ = (p < σ.next ∧ σ.get p = some (.box [.fn 21 [.ptr p 0]])) := (rfl)
section
variable {gl : GL}
theorem psh_k (d : Nat) (p : Nat) (o v : Int) (l : List Fm) (n : Nat) (hn : n < 100000) (hA : okA (.mk o v l))
    (ih : ∀ g (m : Nat) σ, CtrX (C gl) 21 [encF g, .int .i64 m] [.ptr p 0] σ (g ∈ l ∧ m ≤ n + 1 ∧ PshSt p σ) (encF (pshF d g m)) σ) (σ : Sto) (hσ : PshSt p σ) :
    CallX (C gl) 21 ([encF (.mk o v l), .int .i64 n] ++ [.ptr p 0]) σ (encF (pshF (d + 1) (.mk o v l) n)) σ := by
  refine callX_of b21 (by simp [Tryd.ntmps21]) ?_
  obtain ⟨lp, gp⟩ := hσ
  have hsh := shor_okA _ hA
  have hlen := hsh.1
  have nz_p : (p = σ.next) = False := by simp; omega
  have nx_p : ∀ j, (p = σ.next + j) = False := fun j => by simp; omega
  refine W.of ?_
  rw [Tryd.ntmps21]
  simp only [toK, codeOf, Tryd.f21, go_sem, seval, reduceCtorEq]
  rw [pshF]
  by_cases h2 : o = 2
  · subst h2
    rw [if_pos rfl]
    have hn' : (n : Int) < 9223372036854775807 := by omega
    have H := And.intro @nz_p (And.intro @nx_p (And.intro @gp (And.intro @lp @hsh)))
    refine autoA ?_
    repeat' (first | (refine WK.draw (ops := #[_, _, _, _, _, _, _, _, _]) [dq 0 0, dq 0 0, dq 0 0, dq 0 0, dq 0 0, dq 0 0, dq 0 0, dm, dm] mixed (by kernel_rfl) ?_; refine autoA ?_) | (refine WK.draw (ops := #[_, _, _, _, _, _, _, _, _, _]) [dq 0 0, dq 0 1, dq 0 0, dq 0 0, dq 0 0, dm, dq 0 0, dm, dq 0 0, dm] mixed (by kernel_rfl) ?_; refine autoA ?_))
    try exact trivial
    refine WK.rangeX (n) [2, 3, 5, 6] [] (fun i => []) (fun i => (((σ.add (.box [.int .i64 2, .int .i64 v, .list false (encFs l)])).add (.box [.int .i64 0, .int .i64 0, .list true []])).add (.box [.int .i64 (nxtN i (.mk 2 v l)).op, .int .i64 (nxtN i (.mk 2 v l)).var, .list false (encFs (nxtN i (.mk 2 v l)).args)]))) (by omega) (by decide) (by simp only [go_sem, seval, reduceCtorEq, nz_p, nx_p, gp, lp]) (by simp only [go_sem, seval, reduceCtorEq, nz_p, nx_p, gp, lp]) (by simp only [go_sem, seval, reduceCtorEq, nz_p, nx_p, gp, lp, List.take_zero]) (by first | rfl | (simp only [go_sem, seval, reduceCtorEq, nz_p, nx_p, gp, lp]; done) | (refine Sto.ext' (by simp only [go_sem, seval, reduceCtorEq, nz_p, nx_p, gp, lp]) (fun i => ?_); simp only [go_sem, seval, reduceCtorEq, nz_p, nx_p, gp, lp]; repeat' split; all_goals (first | rfl | omega | simp_all))) ?_ ?_
    · intro i hi
      have e : nxtN (i + 1) (.mk 2 v l) = .mk 8 0 [nxtN i (.mk 2 v l)] := rfl
      have H := And.intro @nz_p (And.intro @nx_p (And.intro @gp @lp))
      refine autoA ?_
      repeat' (first | (refine WK.draw (ops := #[_, _, _, _, _, _, _, _, _]) [dq 0 0, dq 0 0, dq 0 0, dq 0 0, dq 0 0, dq 0 0, dq 0 0, dm, dm] mixed (by kernel_rfl) ?_; refine autoA ?_) | (refine WK.draw (ops := #[_, _, _, _, _, _, _, _, _, _]) [dq 0 0, dq 0 1, dq 0 0, dq 0 0, dq 0 0, dm, dq 0 0, dm, dq 0 0, dm] mixed (by kernel_rfl) ?_; refine autoA ?_))
      try exact trivial
      simp only [e, fm_op, fm_var, fm_args]
      exact cutA
    · have H := And.intro @nz_p (And.intro @nx_p (And.intro @gp @lp))
      refine autoA ?_
      repeat' (first | (refine WK.draw (ops := #[_, _, _, _, _, _, _, _, _]) [dq 0 0, dq 0 0, dq 0 0, dq 0 0, dq 0 0, dq 0 0, dq 0 0, dm, dm] mixed (by kernel_rfl) ?_; refine autoA ?_) | (refine WK.draw (ops := #[_, _, _, _, _, _, _, _, _, _]) [dq 0 0, dq 0 1, dq 0 0, dq 0 0, dq 0 0, dm, dq 0 0, dm, dq 0 0, dm] mixed (by kernel_rfl) ?_; refine autoA ?_))
      try exact trivial
      exact finX cutA
  rw [if_neg h2]
  by_cases h8 : o = 8
  · subst h8
    rw [if_pos rfl]
    have w1 : IntKind.i64.wrap ((n : Int) + 1) = ((n + 1 : Nat) : Int) := by rw [wrap_lt (by omega) (by omega)]; omega
    obtain ⟨g, rfl⟩ : ∃ g, l = [g] := by
      have := hA _ (nodes_self _)
      rw [okNode_eq] at this
      simp only [Bool.and_eq_true] at this
      exact args1' (of_decide_eq_true this.1.2)
    have hg : g ∈ [g] := List.mem_singleton_self g
    have hnn : n + 1 ≤ n + 1 := Nat.le_refl _
    rw [List.getD_cons_zero]
    have H := And.intro @nz_p (And.intro @nx_p (And.intro @gp (And.intro @lp (And.intro @w1 (And.intro @hg (And.intro @hnn @pshSt_eq))))))
    refine autoA ?_
    repeat' (first | (refine WK.draw (ops := #[_, _, _, _, _, _, _, _, _]) [dq 0 0, dq 0 0, dq 0 0, dq 0 0, dq 0 0, dq 0 0, dq 0 0, dm, dm] mixed (by kernel_rfl) ?_; refine autoA ?_) | (refine WK.draw (ops := #[_, _, _, _, _, _, _, _, _, _]) [dq 0 0, dq 0 1, dq 0 0, dq 0 0, dq 0 0, dm, dq 0 0, dm, dq 0 0, dm] mixed (by kernel_rfl) ?_; refine autoA ?_))
    try exact trivial
    exact finX cutA
  rw [if_neg h8]
  have q2 : (o == 2) = false := beq_eq_false_iff_ne.2 h2
  have q8 : (o == 8) = false := beq_eq_false_iff_ne.2 h8
  have H := And.intro @nz_p (And.intro @nx_p (And.intro @gp (And.intro @lp (And.intro @q2 @q8))))
  refine autoA ?_
  repeat' (first | (refine WK.draw (ops := #[_, _, _, _, _, _, _, _, _]) [dq 0 0, dq 0 0, dq 0 0, dq 0 0, dq 0 0, dq 0 0, dq 0 0, dm, dm] mixed (by kernel_rfl) ?_; refine autoA ?_) | (refine WK.draw (ops := #[_, _, _, _, _, _, _, _, _, _]) [dq 0 0, dq 0 1, dq 0 0, dq 0 0, dq 0 0, dm, dq 0 0, dm, dq 0 0, dm] mixed (by kernel_rfl) ?_; refine autoA ?_))
  try exact trivial
  refine WK.ownBox0 (σ.next + 2) 2 3 (by simp only [go_sem, seval, reduceCtorEq, nz_p, nx_p, gp, lp]; rfl) (by rfl) ?_
  simp only [go_sem, seval, reduceCtorEq, nz_p, nx_p, gp, lp]
  refine WK.rangeX (l.length) [1, 2, 3, 5, 7, 38] [] (fun j => []) (fun j => (((σ.add (.box [.int .i64 o, .int .i64 v, .list false (encFs l)])).add (.box [.int .i64 0, .int .i64 0, .list true []])).add (.box [.int .i64 o, .int .i64 0, .own (σ.next + 3) (encFs ((l.take j).map fun g => pshF d g n))])).add (.tok 3 j)) (by omega) (by decide) (by simp only [go_sem, seval, reduceCtorEq, nz_p, nx_p, gp, lp]) (by simp only [go_sem, seval, reduceCtorEq, nz_p, nx_p, gp, lp]) (by simp only [go_sem, seval, reduceCtorEq, nz_p, nx_p, gp, lp, List.take_zero]) (by first | rfl | (simp only [go_sem, seval, reduceCtorEq, nz_p, nx_p, gp, lp]; done) | (refine Sto.ext' (by simp only [go_sem, seval, reduceCtorEq, nz_p, nx_p, gp, lp]) (fun i => ?_); simp only [go_sem, seval, reduceCtorEq, nz_p, nx_p, gp, lp]; repeat' split; all_goals (first | rfl | omega | simp_all))) ?_ ?_
  · intro j hj
    have hnn : n ≤ n + 1 := Nat.le_succ n
    have H := And.intro @nz_p (And.intro @nx_p (And.intro @gp (And.intro @lp (And.intro @hj (And.intro @hnn @pshSt_eq)))))
    refine autoA ?_
    repeat' (first | (refine WK.draw (ops := #[_, _, _, _, _, _, _, _, _]) [dq 0 0, dq 0 0, dq 0 0, dq 0 0, dq 0 0, dq 0 0, dq 0 0, dm, dm] mixed (by kernel_rfl) ?_; refine autoA ?_) | (refine WK.draw (ops := #[_, _, _, _, _, _, _, _, _, _]) [dq 0 0, dq 0 1, dq 0 0, dq 0 0, dq 0 0, dm, dq 0 0, dm, dq 0 0, dm] mixed (by kernel_rfl) ?_; refine autoA ?_))
    try exact trivial
    have H := And.intro @nz_p (And.intro @nx_p (And.intro @gp @lp))
    exact cutA
  · simp only [go_sem, seval, reduceCtorEq, nz_p, nx_p, gp, lp, List.take_length]
    have H := And.intro @nz_p (And.intro @nx_p (And.intro @gp @lp))
    refine autoA ?_
    repeat' (first | (refine WK.draw (ops := #[_, _, _, _, _, _, _, _, _]) [dq 0 0, dq 0 0, dq 0 0, dq 0 0, dq 0 0, dq 0 0, dq 0 0, dm, dm] mixed (by kernel_rfl) ?_; refine autoA ?_) | (refine WK.draw (ops := #[_, _, _, _, _, _, _, _, _, _]) [dq 0 0, dq 0 1, dq 0 0, dq 0 0, dq 0 0, dm, dq 0 0, dm, dq 0 0, dm] mixed (by kernel_rfl) ?_; refine autoA ?_))
    try exact trivial
    exact finX cutA
theorem psh_ok (p : Nat) : ∀ (d : Nat) (f : Fm) (n : Nat), nN f ≤ d → n + d < 100000 → okA f → ∀ σ, PshSt p σ → CallX (C gl) 21 ([encF f, .int .i64 n] ++ [.ptr p 0]) σ (encF (pshF d f n)) σ
  | 0, f, n, h, _, _ => by have := nN_pos f; omega
  | d + 1, .mk o v l, n, h, hn, hA => by
    intro σ hσ
    exact psh_k d p o v l n (by omega) hA (fun g m σ => ⟨fun hh => psh_ok p d g m (by have := nN_sub (o := o) (v := v) hh.1; omega) (by omega) (okA_sub hA hh.1) σ hh.2.2⟩) σ hσ
def fitS (f : Fm) : Fm × Int := if validF f 6 = true then (f, 0) else (fz, 3)
theorem fit_ok (har : gl.at' 0 = arityA) (f : Fm) (hs : Shrt f) : PCall (C gl) 24 [encF f] (.tup [encF (fitS f).1, .int .i64 (fitS f).2]) := by
  refine pcallX (callX_of b24 (by simp [Tryd.ntmps24]) ?_) (by simp only [AllCl, cl_encF, and_true]) (by simp only [cl_tup, AllCl, cl_encF, cl_int, and_true])
  have hva : Ctr (C gl) 20 [encF f, .int .i64 6] True (.bool (validF f 6)) := ⟨fun _ => valid_ok har f hs 6⟩
  refine W.of ?_
  rw [Tryd.ntmps24]
  simp only [toK, codeOf, Tryd.f24, go_sem, seval, reduceCtorEq]
  cases hv : validF f 6 with
  | false =>
    have H := @hv
    refine autoA ?_
    try exact trivial
    exact finX cutA (by first | (simp only [go_sem, seval, reduceCtorEq, fitS, hv, encF_fold, encF_fold0, Fm.eta, encFs_fold1, encFs_fold2, encFs_fold3]; done) | (simp only [go_sem, seval, reduceCtorEq, fitS, hv, encF_fold, encF_fold0, Fm.eta, encFs_fold1, encFs_fold2, encFs_fold3]; rfl))
  | true =>
    have H := @hv
    refine autoA ?_
    try exact trivial
    exact finX cutA (by first | (simp only [go_sem, seval, reduceCtorEq, fitS, hv, encF_fold, encF_fold0, Fm.eta, encFs_fold1, encFs_fold2, encFs_fold3]; done) | (simp only [go_sem, seval, reduceCtorEq, fitS, hv, encF_fold, encF_fold0, Fm.eta, encFs_fold1, encFs_fold2, encFs_fold3]; rfl))
def pshS (f : Fm) : Fm × Int := if validF f 6 = true then fitS (pshF (nN f) f 0) else (fz, 1)
end
end Go.Sx

set_option maxRecDepth 100000
set_option maxHeartbeats 4000000
set_option linter.unusedSimpArgs false
set_option linter.unusedVariables false
set_option linter.unnecessarySimpa false
namespace Go.Sx
open Go Go.Lg Go.Proofs
theorem b3 {gl : GL} : Body (C gl).P 3 Tryd.f3 (codeOf Tryd.f3) := ⟨Tryd.func3, by kernel_rfl, by kernel_rfl⟩
theorem nxt_ok {f : Fm} (h : okA f) : ∀ n, okA (nxtN n f)
  | 0 => h
  | n + 1 => okA_iff.2 ⟨rfl, fun x hx => by rw [List.mem_singleton] at hx; subst hx; exact nxt_ok h n⟩
theorem nxt_nN (f : Fm) : ∀ n, nN (nxtN n f) = n + nN f
  | 0 => by simp [nxtN]
  | n + 1 => by rw [nxtN, nN_1, nxt_nN f n]; omega
theorem nN_sum (o v : Int) : ∀ l : List Fm, nN (.mk o v l) = 1 + (l.map nN).sum
  | [] => by simp [nN, nodesF, nodesL]
  | g :: l => by
    have := nN_sum o v l
    simp only [nN, nodesF, nodesL, List.length_cons, List.length_append, List.map_cons, List.sum_cons] at this ⊢
    omega
theorem okA_psh : ∀ (d : Nat) (f : Fm) (n : Nat), nN f ≤ d → okA f → okA (pshF d f n)
  | 0, f, n, hd, _ => by have := nN_pos f; omega
  | d + 1, .mk o v l, n, hd, hA => by
    have hok := hA _ (nodes_self _)
    have ih' : ∀ g ∈ l, ∀ n, okA (pshF d g n) := fun g hg n => okA_psh d g n (by have := nN_sub (o := o) (v := v) hg; omega) (okA_sub hA hg)
    rw [pshF]
    by_cases h2 : o = 2
    · rw [if_pos h2]; exact nxt_ok hA n
    rw [if_neg h2]
    by_cases h8 : o = 8
    · rw [if_pos h8]
      subst h8
      rw [okNode_eq] at hok
      simp only [Bool.and_eq_true] at hok
      obtain ⟨⟨⟨ho1, ho2⟩, hal⟩, hv⟩ := hok
      replace ho1 := of_decide_eq_true ho1
      replace ho2 := of_decide_eq_true ho2
      replace hal := of_decide_eq_true hal
      obtain ⟨g, rfl⟩ := args1' (l := l) hal
      exact ih' g (by simp) (n + 1)
    · rw [if_neg h8]
      refine okA_iff.2 ⟨?_, fun x hx => ?_⟩
      · rw [okNode_eq] at hok ⊢
        rw [if_neg h2] at hok ⊢
        rw [List.length_map]
        simp only [Bool.and_eq_true] at hok ⊢
        exact ⟨hok.1, by decide⟩
      · obtain ⟨g, hg, rfl⟩ := List.mem_map.1 hx
        exact ih' g hg n
theorem sum_le : ∀ (l : List Fm) (h : Fm → Nat) (K : Nat), (∀ g ∈ l, h g ≤ nN g * K) → (l.map h).sum ≤ (l.map nN).sum * K
  | [], _, _, _ => by simp
  | g :: l, h, K, hh => by
    have h1 := hh g List.mem_cons_self
    have h2 := sum_le l h K fun x hx => hh x (List.mem_cons_of_mem _ hx)
    simp only [List.map_cons, List.sum_cons, Nat.add_mul]
    omega
theorem sum_mem : ∀ (l : List Fm) (g : Fm), g ∈ l → nN g ≤ (l.map nN).sum
  | x :: l, g, h => by
    simp only [List.map_cons, List.sum_cons]
    rcases List.mem_cons.1 h with rfl | h
    · omega
    · have := sum_mem l g h; omega
theorem psh_le (K : Nat) : ∀ (d : Nat) (f : Fm) (n : Nat), nN f ≤ d → n + nN f ≤ K → okA f → nN (pshF d f n) ≤ nN f * K
  | 0, f, n, hd, _, _ => by have := nN_pos f; omega
  | d + 1, .mk o v l, n, hd, hK, hA => by
    have hok := hA _ (nodes_self _)
    have hs := nN_sum o v l
    have ih' : ∀ g ∈ l, ∀ m, m + nN g ≤ K → nN (pshF d g m) ≤ nN g * K := fun g hg m hm => psh_le K d g m (by have := nN_sub (o := o) (v := v) hg; omega) hm (okA_sub hA hg)
    rw [pshF]
    by_cases h2 : o = 2
    · rw [if_pos h2, nxt_nN]
      have : 1 * K ≤ nN (.mk o v l) * K := Nat.mul_le_mul_right _ (nN_pos _)
      omega
    rw [if_neg h2]
    by_cases h8 : o = 8
    · rw [if_pos h8]
      subst h8
      rw [okNode_eq] at hok
      simp only [Bool.and_eq_true] at hok
      obtain ⟨⟨⟨ho1, ho2⟩, hal⟩, hv⟩ := hok
      replace ho1 := of_decide_eq_true ho1
      replace ho2 := of_decide_eq_true ho2
      replace hal := of_decide_eq_true hal
      obtain ⟨g, rfl⟩ := args1' (l := l) hal
      rw [nN_1] at hK ⊢
      have := ih' g (by simp) (n + 1) (by omega)
      rw [List.getD_cons_zero, Nat.add_mul]
      omega
    · rw [if_neg h8, nN_sum, List.map_map, hs, Nat.add_mul]
      have h3 := sum_le l (fun g => nN (pshF d g n)) K fun g hg => ih' g hg n (by have := sum_mem l g hg; omega)
      have h4 : (l.map (nN ∘ fun g => pshF d g n)).sum = (l.map fun g => nN (pshF d g n)).sum := rfl
      omega
mutual
def pshdF : Fm → Bool
  | .mk o _ l => (!(o == 8) || (let a := (l.getD 0 fz).op; a == 0 || a == 1 || a == 2 || a == 8)) && pshdL l
def pshdL : List Fm → Bool
  | [] => true
  | f :: l => pshdF f && pshdL l
end
theorem pshdL_all : ∀ l : List Fm, pshdL l = l.all pshdF
  | [] => rfl
  | f :: l => by rw [pshdL, pshdL_all l]; rfl
theorem nxt_pushed (v : Int) : ∀ n, pshdF (nxtN n (.mk 2 v [])) = true ∧ ((nxtN n (.mk 2 v [])).op = 2 ∨ (nxtN n (.mk 2 v [])).op = 8)
  | 0 => ⟨rfl, .inl rfl⟩
  | n + 1 => by
    obtain ⟨h1, h2⟩ := nxt_pushed v n
    refine ⟨?_, .inr rfl⟩
    simp only [nxtN, pshdF, pshdL, List.getD_cons_zero, h1, Bool.and_true]
    rcases h2 with e | e <;> rw [e] <;> rfl
theorem psh_pushed : ∀ (d : Nat) (f : Fm) (n : Nat), nN f ≤ d → okA f → pshdF (pshF d f n) = true
  | 0, f, n, hd, _ => by have := nN_pos f; omega
  | d + 1, .mk o v l, n, hd, hA => by
    have hok := hA _ (nodes_self _)
    have ih' : ∀ g ∈ l, ∀ n, pshdF (pshF d g n) = true := fun g hg n => psh_pushed d g n (by have := nN_sub (o := o) (v := v) hg; omega) (okA_sub hA hg)
    rw [pshF]
    by_cases h2 : o = 2
    · rw [if_pos h2]
      subst h2
      rw [okNode_eq] at hok
      simp only [Bool.and_eq_true] at hok
      obtain ⟨⟨⟨ho1, ho2⟩, hal⟩, hv⟩ := hok
      replace ho1 := of_decide_eq_true ho1
      replace ho2 := of_decide_eq_true ho2
      replace hal := of_decide_eq_true hal
      have : l = [] := List.length_eq_zero_iff.1 (by have : (l.length : Int) = 0 := hal; omega)
      subst this
      exact (nxt_pushed v n).1
    rw [if_neg h2]
    by_cases h8 : o = 8
    · rw [if_pos h8]
      subst h8
      rw [okNode_eq] at hok
      simp only [Bool.and_eq_true] at hok
      obtain ⟨⟨⟨ho1, ho2⟩, hal⟩, hv⟩ := hok
      replace ho1 := of_decide_eq_true ho1
      replace ho2 := of_decide_eq_true ho2
      replace hal := of_decide_eq_true hal
      obtain ⟨g, rfl⟩ := args1' (l := l) hal
      exact ih' g (by simp) (n + 1)
    · rw [if_neg h8, pshdF, beq_eq_false_iff_ne.2 h8, pshdL_all, List.all_map]
      simp only [Bool.not_false, Bool.true_or, Bool.true_and, List.all_eq_true]
      exact fun g hg => ih' g hg n
section
variable {gl : GL}
theorem wPush_ok (har : gl.at' 0 = arityA) (f : Fm) (hs : Shrt f) : PCall (C gl) 7 [encF f] (.tup [encF (pshS f).1, .int .i64 (pshS f).2]) := by
  refine pcallX (callX_of b7 (by simp [Tryd.ntmps7]) ?_) (by simp only [AllCl, cl_encF, and_true]) (by simp only [cl_tup, AllCl, cl_encF, cl_int, and_true])
  have hva : Ctr (C gl) 20 [encF f, .int .i64 6] True (.bool (validF f 6)) := ⟨fun _ => valid_ok har f hs 6⟩
  refine W.of ?_
  rw [Tryd.ntmps7]
  simp only [toK, codeOf, Tryd.f7, go_sem, seval, reduceCtorEq]
  cases hv : validF f 6 with
  | false =>
    have H := @hv
    refine autoA ?_
    try exact trivial
    exact finX cutA (by first | (simp only [go_sem, seval, reduceCtorEq, pshS, hv, encF_fold, encF_fold0, Fm.eta, encFs_fold1, encFs_fold2, encFs_fold3]; done) | (simp only [go_sem, seval, reduceCtorEq, pshS, hv, encF_fold, encF_fold0, Fm.eta, encFs_fold1, encFs_fold2, encFs_fold3]; rfl))
  | true =>
    have hA := (valid_both hv).2
    have hn : nN f ≤ 60 := ((validF_iff f 6).1 hv).2.2.1
    have hA2 := okA_psh (nN f) f 0 (Nat.le_refl _) hA
    have hf : Ctr (C gl) 24 [encF (pshF (nN f) f 0)] True (.tup [encF (fitS (pshF (nN f) f 0)).1, .int .i64 (fitS (pshF (nN f) f 0)).2]) := ⟨fun _ => fit_ok har _ (shrt_of_shor _ (shor_okA _ hA2))⟩
    have hp : ∀ σ, CtrX (C gl) 21 [encF f, .int .i64 0] [.ptr 2 0] σ (PshSt 2 σ) (encF (pshF (nN f) f 0)) σ := fun σ => ⟨fun h => psh_ok 2 (nN f) f 0 (Nat.le_refl _) (by omega) hA σ h⟩
    have H := And.intro @hv @pshSt_eq
    refine autoA ?_
    try exact trivial
    exact finX cutA (by first | (simp only [go_sem, seval, reduceCtorEq, pshS, hv, encF_fold, encF_fold0, Fm.eta, encFs_fold1, encFs_fold2, encFs_fold3]; done) | (simp only [go_sem, seval, reduceCtorEq, pshS, hv, encF_fold, encF_fold0, Fm.eta, encFs_fold1, encFs_fold2, encFs_fold3]; rfl))
/-- How many nodes Push asks for. -/
theorem least_k (d : Nat) (o v : Int) (l : List Fm) (n K : Nat) (hd : nN (.mk o v l) ≤ d + 1) (hK : n + nN (.mk o v l) ≤ K) (hK2 : K ≤ 1000) (hA : okA (.mk o v l)) (hN : nN (.mk o v l) ≤ 1000)
    (ih : ∀ g (m : Nat), Ctr (C gl) 9 [encF g, .int .i64 m] (g ∈ l ∧ m + nN g ≤ K) (.int .i64 (nN (pshF d g m) : Nat))) :
    PCall (C gl) 9 [encF (.mk o v l), .int .i64 n] (.int .i64 (nN (pshF (d + 1) (.mk o v l) n) : Nat)) := by
  have hok := hA _ (nodes_self _)
  have hlen := (shor_okA _ hA).1
  have hs := nN_sum o v l
  have hle := psh_le K (d + 1) (.mk o v l) n hd hK hA
  have hle2 : nN (.mk o v l) * K ≤ 1000 * 1000 := Nat.mul_le_mul hN hK2
  refine pcallX (callX_of b9 (by simp [Tryd.ntmps9]) ?_) (by simp only [AllCl, cl_encF, cl_int, and_true]) (.int _ _)
  refine W.of ?_
  rw [Tryd.ntmps9]
  simp only [toK, codeOf, Tryd.f9, go_sem, seval, reduceCtorEq]
  rw [pshF] at hle ⊢
  by_cases h2 : o = 2
  · subst h2
    rw [if_pos rfl] at hle ⊢
    rw [nxt_nN] at hle ⊢
    rw [okNode_eq] at hok
    simp only [Bool.and_eq_true] at hok
    obtain ⟨⟨⟨ho1, ho2⟩, hal⟩, hv⟩ := hok
    replace ho1 := of_decide_eq_true ho1
    replace ho2 := of_decide_eq_true ho2
    replace hal := of_decide_eq_true hal
    have hl0 : l = [] := List.length_eq_zero_iff.1 (by have : (l.length : Int) = 0 := hal; omega)
    subst hl0
    rw [nN_0] at hle ⊢
    have w1 : IntKind.i64.wrap (1 + (n : Int)) = ((n + 1 : Nat) : Int) := by rw [wrap_lt (by omega) (by omega)]; omega
    clear hle hle2 hK hK2 hN hd
    have H := @w1
    refine autoA ?_
    try exact trivial
    try exact cut_none _
  rw [if_neg h2] at hle ⊢
  by_cases h8 : o = 8
  · subst h8
    rw [if_pos rfl] at hle ⊢
    rw [okNode_eq] at hok
    simp only [Bool.and_eq_true] at hok
    obtain ⟨⟨⟨ho1, ho2⟩, hal⟩, hv⟩ := hok
    replace ho1 := of_decide_eq_true ho1
    replace ho2 := of_decide_eq_true ho2
    replace hal := of_decide_eq_true hal
    obtain ⟨g, rfl⟩ := args1' (l := l) hal
    have w1 : IntKind.i64.wrap ((n : Int) + 1) = ((n + 1 : Nat) : Int) := by rw [wrap_lt (by omega) (by omega)]; omega
    have hg : g ∈ [g] := List.mem_singleton_self g
    have hk1 : n + 1 + nN g ≤ K := by rw [nN_1] at hK; omega
    rw [List.getD_cons_zero]
    clear hle hle2 hK hK2 hN hd
    have H := And.intro @w1 (And.intro @hg @hk1)
    refine autoA ?_
    try exact trivial
    try exact cut_none _
  rw [if_neg h8] at hle ⊢
  have q2 : (o == 2) = false := beq_eq_false_iff_ne.2 h2
  have q8 : (o == 8) = false := beq_eq_false_iff_ne.2 h8
  have hsum : ∀ i, i < l.length → ((l.take (i + 1)).map fun g => nN (pshF d g n)).sum = ((l.take i).map fun g => nN (pshF d g n)).sum + nN (pshF d (l.getD i fz) n) := fun i hi => by
    rw [← List.take_append_getElem hi, List.map_append, List.sum_append, List.getD_eq_getElem?_getD, List.getElem?_eq_getElem hi]; simp
  have hmono : ∀ i, i ≤ l.length → ((l.take i).map fun g => nN (pshF d g n)).sum ≤ 1000 * 1000 := fun i hi => by
    have h1 := sum_le (l.take i) (fun g => nN (pshF d g n)) K fun g hg => psh_le K d g n (by have := nN_sub (o := o) (v := v) (List.mem_of_mem_take hg); omega) (by have := sum_mem l g (List.mem_of_mem_take hg); omega) (okA_sub hA (List.mem_of_mem_take hg))
    have h2 : ((l.take i).map nN).sum ≤ (l.map nN).sum := by
      conv => rhs; rw [← List.take_append_drop i l, List.map_append, List.sum_append]
      omega
    have h3 : ((l.take i).map nN).sum * K ≤ 1000 * 1000 := Nat.mul_le_mul (by omega) hK2
    omega
  have hK' : ∀ g ∈ l, n + nN g ≤ K := fun g hg => by have := sum_mem l g hg; omega
  clear hle hle2 hK hK2 hN hd hs
  obtain ⟨S, hS⟩ : ∃ S : Nat → Nat, ∀ i, S i = 1 + ((l.take i).map fun g => nN (pshF d g n)).sum := ⟨_, fun _ => rfl⟩
  have hS0 : ((S 0 : Nat) : Int) = 1 := by rw [hS]; simp
  have H := And.intro @hS0 (And.intro @q2 @q8)
  refine autoA ?_
  try exact trivial
  refine WK.rangeX (l.length) [1, 2, 24] [5] (fun i => [.int .i64 ((S i : Nat) : Int)]) (fun i => (Sto.none.add (.box [.int .i64 o, .int .i64 v, .list false (encFs l)]))) (by omega) (by decide) (by simp only [go_sem, seval, reduceCtorEq, hS0]) (by simp only [go_sem, seval, reduceCtorEq, hS0]) (by simp only [go_sem, seval, reduceCtorEq, hS0, List.take_zero]) (by first | rfl | (simp only [go_sem, seval, reduceCtorEq, hS0]; done) | (refine Sto.ext' (by simp only [go_sem, seval, reduceCtorEq, hS0]) (fun i => ?_); simp only [go_sem, seval, reduceCtorEq, hS0]; repeat' split; all_goals (first | rfl | omega | simp_all))) ?_ ?_
  · intro i hi
    have e := encFs_get l i hi
    have hm := List.getElem_mem hi
    have hk2 := hK' _ hm
    have b1 := hmono (i + 1) hi
    have hs1 := hsum i hi
    have hSi := hS i
    have hSj := hS (i + 1)
    rw [List.getD_eq_getElem?_getD, List.getElem?_eq_getElem hi, Option.getD_some] at hs1
    have w1 : IntKind.i64.wrap (((S i : Nat) : Int) + ((nN (pshF d l[i] n) : Nat) : Int)) = ((S (i + 1) : Nat) : Int) := by
      rw [wrap_lt (by omega) (by omega)]; omega
    clear b1 hs1 hSi hSj
    have H := And.intro @hS0 (And.intro @hi (And.intro @hm (And.intro @hk2 @w1)))
    refine autoA ?_
    try exact trivial
    try exact cutA
  · have e : nN (.mk o 0 (l.map fun g => pshF d g n)) = S l.length := by rw [hS, List.take_length, nN_sum, List.map_map]; rfl
    rw [e]
    have H := @hS0
    refine autoA ?_
    try exact trivial
    try exact cut_none _
theorem least_ok (K : Nat) (hK2 : K ≤ 1000) : ∀ (d : Nat) (f : Fm) (n : Nat), nN f ≤ d → n + nN f ≤ K → okA f → nN f ≤ 1000 → PCall (C gl) 9 [encF f, .int .i64 n] (.int .i64 (nN (pshF d f n) : Nat))
  | 0, f, n, h, _, _, _ => by have := nN_pos f; omega
  | d + 1, .mk o v l, n, h, hK, hA, hN => least_k d o v l n K h hK hK2 hA hN fun g m => ⟨fun hh => least_ok K hK2 d g m (by have := nN_sub (o := o) (v := v) hh.1; omega) hh.2 (okA_sub hA hh.1) (by have := nN_sub (o := o) (v := v) hh.1; omega)⟩
theorem pushed_k (o v : Int) (l : List Fm) (hA : okA (.mk o v l)) (ih : ∀ g, Ctr (C gl) 10 [encF g] (g ∈ l) (.bool (pshdF g))) : PCall (C gl) 10 [encF (.mk o v l)] (.bool (pshdF (.mk o v l))) := by
  have hok := hA _ (nodes_self _)
  have hlen := (shor_okA _ hA).1
  refine pcallX (callX_of b10 (by simp [Tryd.ntmps10]) ?_) (by simp only [AllCl, cl_encF, and_true]) (.bool _)
  refine W.of ?_
  rw [Tryd.ntmps10]
  simp only [toK, codeOf, Tryd.f10, go_sem, seval, reduceCtorEq]
  have rest : ∀ b : Bool, (∀ g ∈ l, pshdF g = true) → pshdL l = true := fun _ h => by rw [pshdL_all, List.all_eq_true]; exact h
  have fail : ∀ i, (hi : i < l.length) → pshdF l[i] = false → pshdL l = false := fun i hi h => by
    rw [pshdL_all, List.all_eq_false]; exact ⟨l[i], List.getElem_mem hi, by rw [h]; exact Bool.false_ne_true⟩
  have hp : pshdF (.mk o v l) = ((!(o == 8) || (let a := (l.getD 0 fz).op; a == 0 || a == 1 || a == 2 || a == 8)) && pshdL l) := by rw [pshdF]
  cases h8 : (o == 8) with
  | true =>
    obtain rfl : o = 8 := eq_of_beq h8
    rw [okNode_eq] at hok
    simp only [Bool.and_eq_true] at hok
    obtain ⟨⟨⟨ho1, ho2⟩, hal⟩, hv⟩ := hok
    replace ho1 := of_decide_eq_true ho1
    replace ho2 := of_decide_eq_true ho2
    replace hal := of_decide_eq_true hal
    obtain ⟨g, rfl⟩ := args1' (l := l) hal
    simp only [h8, Bool.not_true, Bool.false_or, List.getD_cons_zero] at hp
    rw [hp]
    have hg : g ∈ [g] := List.mem_singleton_self g
    have hL : pshdL [g] = pshdF g := by rw [pshdL, pshdL, Bool.and_true]
    rw [hL]
    cases q0 : (g.op == 0) <;> cases q1 : (g.op == 1) <;> cases q2 : (g.op == 2) <;> cases q3 : (g.op == 8)
    all_goals simp only [Bool.or_true, Bool.true_or, Bool.or_false, Bool.true_and, Bool.false_and]
    all_goals
      have H := And.intro @q0 (And.intro @q1 (And.intro @q2 @q3))
      refine autoA ?_
      try exact trivial
    all_goals try exact cut_none _
    all_goals
      refine rangeAI (1) [1, 19] [] (fun i => []) (fun i => (Sto.none.add (.box [.int .i64 8, .int .i64 v, .list false (encFs [g])]))) (fun i => (i = 1 → pshdF g = true)) ?_ ?_
      · intro i hi hI
        obtain rfl : i = 0 := by omega
        cases q : pshdF g with
        | false =>
          have H := And.intro @hg @q
          refine autoA ?_
          try exact trivial
          try exact cut_none _
        | true =>
          have H := And.intro @hg @q
          refine autoA ?_
          try exact trivial
          try exact cutA
      · intro hI
        rw [hI rfl]
        have H := trivial
        refine autoA ?_
        try exact trivial
        try exact cut_none _
  | false =>
    simp only [h8, Bool.not_false, Bool.true_or, Bool.true_and] at hp
    rw [hp]
    have H := @h8
    refine autoA ?_
    try exact trivial
    refine rangeAI (l.length) [1, 19] [] (fun i => []) (fun i => (Sto.none.add (.box [.int .i64 o, .int .i64 v, .list false (encFs l)]))) (fun i => (∀ g ∈ l.take i, pshdF g = true)) ?_ ?_
    · intro i hi hI
      have e := encFs_get l i hi
      have hm := List.getElem_mem hi
      cases q : pshdF l[i] with
      | false =>
        rw [fail i hi q]
        have H := And.intro @hi (And.intro @hm @q)
        refine autoA ?_
        try exact trivial
        try exact cut_none _
      | true =>
        have hn : ∀ g ∈ l.take (i + 1), pshdF g = true := fun g hg => by
          rw [← List.take_append_getElem hi, List.mem_append, List.mem_singleton] at hg
          rcases hg with hg | rfl
          · exact hI g hg
          · exact q
        have H := And.intro @hi (And.intro @hm @q)
        refine autoA ?_
        try exact trivial
        first | exact ⟨hn, cutA⟩ | exact cutA
    · intro hI
      rw [List.take_length] at hI
      rw [rest true hI]
      have H := trivial
      refine autoA ?_
      try exact trivial
      try exact cut_none _
theorem pushed_ok (f : Fm) : okA f → PCall (C gl) 10 [encF f] (.bool (pshdF f)) := by
  induction f using Fm.ind with
  | h o v l ih => exact fun hA => pushed_k o v l hA fun g => ⟨fun hg => ih g hg (okA_sub hA hg)⟩
theorem valid_nN {f : Fm} (hA : okA f) : validF f 6 = decide (nN f ≤ 60) := by
  rw [Bool.eq_iff_iff, validF_iff, decide_eq_true_eq]
  exact ⟨fun h => h.2.2.1, fun h => ⟨by decide, by decide, h, hA⟩⟩
theorem rewritepush_ok (hsg : gl.at' 3 = signsA) (har : gl.at' 0 = arityA) (hst : gl.at' 1 = strengthA) (hri : gl.at' 2 = rightA) (f : Fm) (hs : Shrt f) :
    PCall (C gl) 3 [encF f] (.bool true) := by
  have haw : Ctr (C gl) 6 [] True (.bool true) := ⟨fun _ => awake4_ok hsg har hst hri⟩
  have hfew : ∀ f : Fm, Ctr (C gl) 5 [encF f, .int .i64 100] (Shrt f) (.bool (decide (nodesR 100 f ≤ 100))) := fun f => ⟨fun h => fewR_ok f h 100 (by omega) (by omega)⟩
  have hpu : Ctr (C gl) 7 [encF f] True (.tup [encF (pshS f).1, .int .i64 (pshS f).2]) := ⟨fun _ => wPush_ok har f hs⟩
  have his : ∀ g : Fm, Ctr (C gl) 8 [encF g] (Shrt g) (.bool (validF g 6)) := fun g => ⟨fun h => isR_ok g h⟩
  refine pcallX (callX_of b3 (by simp [Tryd.ntmps3]) ?_) (by simp only [AllCl, cl_encF, and_true]) (.bool _)
  refine W.of ?_
  rw [Tryd.ntmps3]
  simp only [toK, codeOf, Tryd.f3, go_sem, seval, reduceCtorEq]
  cases k1 : decide (nodesR 100 f ≤ 100) with
  | false =>
    have H := And.intro @k1 @hs
    refine autoA ?_
    try exact trivial
    exact cut_none _
  | true =>
  cases hv : validF f 6 with
  | false =>
    have e1 : pshS f = (fz, 1) := by unfold pshS; rw [hv]; rfl
    rw [e1] at hpu
    have H := And.intro @k1 (And.intro @hs @hv)
    refine autoA ?_
    try exact trivial
    exact cut_none _
  | true =>
    have hA := (valid_both hv).2
    have hn : nN f ≤ 60 := ((validF_iff f 6).1 hv).2.2.1
    have hA2 := okA_psh (nN f) f 0 (Nat.le_refl _) hA
    have hs2 := shrt_of_shor _ (shor_okA _ hA2)
    have hp := psh_pushed (nN f) f 0 (Nat.le_refl _) hA
    have hle : Ctr (C gl) 9 [encF f, .int .i64 0] True (.int .i64 (nN (pshF (nN f) f 0) : Nat)) := ⟨fun _ => least_ok 1000 (Nat.le_refl _) (nN f) f 0 (Nat.le_refl _) (by omega) hA (by omega)⟩
    have hpd : Ctr (C gl) 10 [encF (pshF (nN f) f 0)] True (.bool (pshdF (pshF (nN f) f 0))) := ⟨fun _ => pushed_ok _ hA2⟩
    have hv2 := valid_nN hA2
    have e1 : pshS f = fitS (pshF (nN f) f 0) := by unfold pshS; rw [if_pos hv]
    generalize pshF (nN f) f 0 = g at *
    by_cases hg : nN g ≤ 60
    · rw [decide_eq_true hg] at hv2
      have e2 : fitS g = (g, 0) := by unfold fitS; rw [if_pos hv2]
      rw [e1, e2] at hpu
      clear hg hn
      have H := And.intro @k1 (And.intro @hs (And.intro @hv (And.intro @hv2 (And.intro @hs2 @hp))))
      refine autoA ?_
      try exact trivial
      exact cut_none _
    · rw [decide_eq_false hg] at hv2
      have e2 : fitS g = (fz, 3) := by unfold fitS; rw [if_neg (by rw [hv2]; exact Bool.false_ne_true)]
      have q : decide (((nN g : Nat) : Int) > 60) = true := decide_eq_true (by omega)
      rw [e1, e2] at hpu
      clear hg hn
      have H := And.intro @k1 (And.intro @hs (And.intro @hv @q))
      refine autoA ?_
      try exact trivial
      exact cut_none _
end
end Go.Sx
