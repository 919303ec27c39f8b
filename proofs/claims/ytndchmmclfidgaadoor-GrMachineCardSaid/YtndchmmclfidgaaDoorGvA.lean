import Derived.Test.YtndchmmclfidgaaDoorLgAw
import Derived.Test.YtndchmmclfidgaaDoorGxR
set_option maxRecDepth 100000
set_option linter.unusedSimpArgs false
set_option linter.unusedVariables false
set_option linter.unnecessarySimpa false
namespace Go.Sx
open Go Go.Lg Go.Proofs
def okN (n o v : Int) (len : Nat) : Bool := decide (arF o = len) && (if o = 2 then decide (0 ≤ v) && decide (v < n) else decide (v = 0))
mutual
def shapedR (n : Int) : Fm → Bool
  | .mk o v l => okN n o v l.length && shapedRL n l
def shapedRL (n : Int) : List Fm → Bool
  | [] => true
  | f :: l => shapedR n f && shapedRL n l
end
theorem shapedRL_all (n : Int) : ∀ l : List Fm, shapedRL n l = l.all (shapedR n)
  | [] => rfl
  | f :: l => by simp [shapedRL, shapedRL_all n l]
section
variable {gl : GL}
theorem shaped_k (n o v : Int) (l : List Fm) (hlen : l.length < 9223372036854775807) (ih : ∀ g ∈ l, PCall (C gl) 119 [encF g, .int .i64 n] (.bool (shapedR n g))) :
    PCall (C gl) 119 [encF (.mk o v l), .int .i64 n] (.bool (shapedR n (.mk o v l))) := by
  refine pcallX (callX_of b119 (by simp [Tryd.ntmps119]) ?_) (by simp only [AllCl, cl_encF, cl_int, and_true]) (.bool _)
  refine W.of ?_
  rw [Tryd.ntmps119]
  simp only [toK, codeOf, Tryd.f119, go_sem, seval, reduceCtorEq]
  have H := @encF_eq
  refine goB ?_
  first | exact trivial | clear H | skip
  refine WK.joinB [1, 2] [39] [.bool (!okN n o v l.length)] (Sto.none.add (.box [.int .i64 o, .int .i64 v, .list false (encFs l)])) ?_ ?_
  · refine WK.draw [⟨false, 0, 0⟩, ⟨false, 0, 0⟩, ⟨true, 0, 0⟩, ⟨false, 0, 0⟩, ⟨false, 1, 0⟩, ⟨false, 1, 0⟩, ⟨false, 0, 0⟩, ⟨false, 0, 0⟩, ⟨false, 0, 0⟩, ⟨false, 0, 0⟩, ⟨false, 0, 0⟩, ⟨false, 0, 0⟩, ⟨false, 0, 0⟩, ⟨false, 0, 0⟩, ⟨false, 0, 0⟩, ⟨false, 0, 0⟩, ⟨false, 0, 0⟩, ⟨false, 0, 0⟩, ⟨false, 0, 0⟩, ⟨false, 0, 0⟩, ⟨false, 0, 0⟩, ⟨false, 0, 0⟩, ⟨false, 0, 0⟩, ⟨false, 0, 0⟩, ⟨false, 0, 0⟩, ⟨false, 0, 0⟩, ⟨false, 0, 0⟩, ⟨false, 0, 0⟩, ⟨false, 0, 0⟩, ⟨false, 0, 0⟩, ⟨false, 0, 0⟩, ⟨false, 0, 0⟩, ⟨false, 0, 0⟩] mixed (by kernel_rfl) ?_
    simp only [go_sem, seval, reduceCtorEq]
    refine callD_pure (arity_ok (gl := gl) o) rfl ?_ ?_ ?_ <;> simp only [go_sem, seval, reduceCtorEq]
    try simp only [go_sem, seval, reduceCtorEq, encFs_len, bne]
    by_cases hA : arF o = (l.length : Int)
    · have hA' : (arF o == (l.length : Int)) = true := by simpa using hA
      by_cases h2 : o = 2
      · have h2' : (o == 2) = true := by simpa using h2
        by_cases h3 : v < 0
        · have e : okN n o v l.length = false := by unfold okN; rw [if_pos h2]; simp; intros; omega
          simp only [go_sem, seval, reduceCtorEq, bne, e, hA', h2', h3, decide_true, decide_false]
        · by_cases h4 : v ≥ n
          · have e : okN n o v l.length = false := by unfold okN; rw [if_pos h2]; simp; intros; omega
            simp only [go_sem, seval, reduceCtorEq, bne, e, hA', h2', h3, h4, decide_true, decide_false]
          · have e : okN n o v l.length = true := by unfold okN; rw [if_pos h2, hA]; simp; omega
            simp only [go_sem, seval, reduceCtorEq, bne, e, hA', h2', h3, h4, decide_true, decide_false]
      · have h2' : (o == 2) = false := by simpa using h2
        by_cases h3 : v = 0
        · have e : okN n o v l.length = true := by unfold okN; rw [if_neg h2, hA]; simp; omega
          have h3' : (v == 0) = true := by simpa using h3
          simp only [go_sem, seval, reduceCtorEq, bne, e, hA', h2', h3']
        · have e : okN n o v l.length = false := by unfold okN; rw [if_neg h2]; simp; intros; omega
          have h3' : (v == 0) = false := by simpa using h3
          simp only [go_sem, seval, reduceCtorEq, bne, e, hA', h2', h3']
    · have hA' : (arF o == (l.length : Int)) = false := by simpa using hA
      have e : okN n o v l.length = false := by unfold okN; simp [hA]
      simp only [go_sem, seval, reduceCtorEq, bne, e, hA']
  simp only [go_sem, seval, reduceCtorEq]
  refine WK.cond _ (by simp only [go_sem, seval, reduceCtorEq]; rfl) (fun h => ?_) (fun h => ?_)
  · have H := trivial
    refine goB ?_
    first | exact trivial | clear H | skip
    have h' : okN n o v l.length = false := by simpa using h
    simp [shapedR, h']
    have H := trivial
    exact cutA
  · have h' : okN n o v l.length = true := by simpa using h
    have H := @encFs_len
    refine goB ?_
    first | exact trivial | clear H | skip
    refine WK.rangeI (l.length) [1, 2, 41] [] (fun i => []) (fun i => Sto.none.add (.box [.int .i64 o, .int .i64 v, .list false (encFs l)])) (fun i => ∀ g ∈ l.take i, shapedR n g = true) (by simp) (by omega) (by decide) (by simp only [go_sem, seval, reduceCtorEq]) (by simp only [go_sem, seval, reduceCtorEq]) (by simp only [go_sem, seval, reduceCtorEq, List.take_zero]) (by first | rfl | (simp only [go_sem, seval, reduceCtorEq]; done) | (refine Sto.ext' (by simp only [go_sem, seval, reduceCtorEq]) (fun i => ?_); simp only [go_sem, seval, reduceCtorEq]; repeat' split; all_goals (first | rfl | omega | simp_all))) ?_ ?_
    · intro i hi hI
      simp only [go_sem, seval, reduceCtorEq]
      have H := And.intro @encFs_len (And.intro @encFs_get (And.intro @hi @encF_eq))
      refine goB ?_
      first | exact trivial | clear H | skip
      refine callK_pureL (ih l[i] (List.getElem_mem hi)) rfl ?_ ?_ ?_ <;> simp only [go_sem, seval, reduceCtorEq, encF_eq]
      have H := trivial
      refine goB ?_
      first | exact trivial | clear H | skip
      refine WK.cond _ (by simp only [go_sem, seval, reduceCtorEq]; rfl) (fun h2 => ?_) (fun h2 => ?_)
      · have h2' : shapedR n l[i] = false := by simpa using h2
        have H := trivial
        refine goB ?_
        first | exact trivial | clear H | skip
        have : shapedRL n l = false := by
          rw [shapedRL_all]
          exact Bool.eq_false_iff.2 fun hk => by
            have := List.all_eq_true.1 hk _ (List.getElem_mem hi)
            rw [h2'] at this; cases this
        refine ⟨by simp [shapedR, this], ?_⟩
        have H := trivial
        exact cutA
      · have h2' : shapedR n l[i] = true := by simpa using h2
        have H := trivial
        refine goB ?_
        first | exact trivial | clear H | skip
        refine ⟨?_, ?_⟩
        · intro g hg
          rw [← List.take_append_getElem hi, List.mem_append, List.mem_singleton] at hg
          rcases hg with hg | rfl
          · exact hI g hg
          · exact h2'
        have H := trivial
        exact cutA
    · intro hI
      simp only [go_sem, seval, reduceCtorEq]
      have H := trivial
      refine goB ?_
      first | exact trivial | clear H | skip
      refine ⟨?_, ?_⟩
      · rw [List.take_length] at hI
        simp only [shapedR, h', shapedRL_all, Bool.true_and]
        exact (List.all_eq_true.2 hI).symm
      have H := trivial
      exact cutA
theorem shaped_ok (n : Int) (f : Fm) : Shrt f → PCall (C gl) 119 [encF f, .int .i64 n] (.bool (shapedR n f)) := by
  induction f using Fm.ind with
  | h o v l ih =>
    intro hs
    simp only [Shrt] at hs
    exact shaped_k n o v l hs.1 fun g hg => ih g hg (hs.2.mem g hg)
end
theorem hand_iff (n : Int) : ∀ (xs : List Fm) (k : Nat), (handT (vStep n) (·.2) (k, true) xs).2 = true ↔ (xs = [] ∨ k + xs.length ≤ 60) ∧ ∀ g ∈ xs, okNode n g = true
  | [], k => by simp [handT]
  | x :: xs, k => by
    have hs : vStep n (k, true) x = (k + 1, decide (k + 1 ≤ 60) && okNode n x) := rfl
    by_cases h : (decide (k + 1 ≤ 60) && okNode n x) = true
    · have h' := h
      simp only [Bool.and_eq_true, decide_eq_true_eq] at h
      simp only [handT, hs, h', if_true]
      rw [hand_iff n xs (k + 1)]
      simp only [List.mem_cons, forall_eq_or_imp, List.length_cons, reduceCtorEq, false_or]
      constructor
      · rintro ⟨h1, h2⟩
        refine ⟨?_, h.2, h2⟩
        rcases h1 with rfl | h1
        · simp; omega
        · omega
      · rintro ⟨h1, _, h2⟩
        exact ⟨.inr (by omega), h2⟩
    · have h' : (decide (k + 1 ≤ 60) && okNode n x) = false := by simpa using h
      simp only [handT, hs, h', Bool.false_eq_true, if_false, false_iff]
      rintro ⟨h1, h2⟩
      have h3 := h2 x List.mem_cons_self
      simp only [List.length_cons, reduceCtorEq, false_or] at h1
      apply h
      simp [h3]; omega
theorem nodesF_ne (f : Fm) : nodesF f ≠ [] := by cases f; simp [nodesF]
theorem validF_iff (f : Fm) (n : Int) : validF f n = true ↔ 0 ≤ n ∧ n ≤ 6 ∧ (nodesF f).length ≤ 60 ∧ ∀ g ∈ nodesF f, okNode n g = true := by
  unfold validF
  simp only [Bool.and_eq_true, decide_eq_true_eq, hand_iff, nodesF_ne, false_or, Nat.zero_add, and_assoc]
mutual
theorem nodesR_min : ∀ (f : Fm) (m : Int), 0 ≤ m → nodesR m f = min ((nodesF f).length : Int) (m + 1)
  | .mk _ _ l, m, h => by
    simp only [nodesR, nodesF, List.length_cons]
    rw [nodesRL_min l m 1 (by omega) (by omega)]
    omega
theorem nodesRL_min : ∀ (l : List Fm) (m n : Int), 1 ≤ n → n ≤ m + 1 → nodesRL m l n = min (n + ((nodesL l).length : Int)) (m + 1)
  | [], m, n, h1, h2 => by simp only [nodesRL, nodesL, List.length_nil]; omega
  | f :: l, m, n, h1, h2 => by
    simp only [nodesRL, nodesL, List.length_append]
    by_cases h : n ≤ m
    · rw [if_pos h, nodesR_min f (m - n) (by omega), nodesRL_min l m _ (by omega) (by omega)]
      omega
    · rw [if_neg h, nodesRL_min l m n h1 h2]
      omega
end
theorem okN_node (n o v : Int) (l : List Fm) : okN n o v l.length = okNode n (.mk o v l) := by
  have e1 : Fm.op (.mk o v l) = o := rfl
  have e2 : Fm.var (.mk o v l) = v := rfl
  have e3 : Fm.args (.mk o v l) = l := rfl
  unfold okN okNode arF
  rw [e1, e2, e3]
  by_cases h : 0 ≤ o ∧ o ≤ 13
  · rw [if_pos h]
    have h1 : decide (0 ≤ o) = true := by simpa using h.1
    have h2 : decide (o ≤ 13) = true := by simpa using h.2
    have h3 : (arityL.getD o.toNat 0 = (l.length : Int)) = ((l.length : Int) = arityL.getD o.toNat 0) := propext ⟨Eq.symm, Eq.symm⟩
    simp only [h1, h2, h3, Bool.true_and]
  · rw [if_neg h]
    have h1 : decide ((-1 : Int) = (l.length : Int)) = false := by simp
    have h2 : (decide (0 ≤ o) && decide (o ≤ 13)) = false := by
      rw [Bool.and_eq_false_iff]; simp only [decide_eq_false_iff_not]; omega
    rw [h1, h2, Bool.false_and, Bool.false_and, Bool.false_and]
mutual
theorem shapedR_iff (n : Int) : ∀ f : Fm, shapedR n f = true ↔ ∀ g ∈ nodesF f, okNode n g = true
  | .mk o v l => by
    simp only [shapedR, nodesF, Bool.and_eq_true, List.mem_cons, forall_eq_or_imp, okN_node, shapedRL_iff n l]
theorem shapedRL_iff (n : Int) : ∀ l : List Fm, shapedRL n l = true ↔ ∀ g ∈ nodesL l, okNode n g = true
  | [] => by simp [shapedRL, nodesL]
  | f :: l => by
    simp only [shapedRL, nodesL, Bool.and_eq_true, List.mem_append, shapedR_iff n f, shapedRL_iff n l]
    constructor
    · rintro ⟨h1, h2⟩ g (h | h)
      · exact h1 g h
      · exact h2 g h
    · intro h; exact ⟨fun g hg => h g (.inl hg), fun g hg => h g (.inr hg)⟩
end
theorem validF_ref (f : Fm) (n : Int) : (decide (n ≥ 0) && (decide (n ≤ 6) && (decide (nodesR 60 f ≤ 60) && shapedR n f))) = validF f n := by
  rw [Bool.eq_iff_iff, validF_iff]
  simp only [Bool.and_eq_true, decide_eq_true_eq, shapedR_iff, nodesR_min f 60 (by omega)]
  constructor
  · rintro ⟨h1, h2, h3, h4⟩; exact ⟨h1, h2, by omega, h4⟩
  · rintro ⟨h1, h2, h3, h4⟩; exact ⟨h1, h2, by omega, h4⟩
section
variable {gl : GL}
theorem validR_ok (f : Fm) (hs : Shrt f) (n : Int) : PCall (C gl) 58 [encF f, .int .i64 n] (.bool (validF f n)) := by
  refine pcallX (callX_of b58 (by simp [Tryd.ntmps58]) ?_) (by simp only [AllCl, cl_encF, cl_int, and_true]) (.bool _)
  rw [← validF_ref]
  refine W.of ?_
  rw [Tryd.ntmps58]
  simp only [toK, codeOf, Tryd.f58, go_sem, seval, reduceCtorEq]
  by_cases h1 : n ≥ 0
  · by_cases h2 : n ≤ 6
    · have H := And.intro @encF_eq (And.intro @h1 @h2)
      refine goB ?_
      first | exact trivial | clear H | skip
      refine callK_pureL (nodesR_ok f hs 60 (by omega) (by omega)) rfl ?_ ?_ ?_ <;> simp only [go_sem, seval, reduceCtorEq, encF_eq]
      by_cases h3 : nodesR 60 f ≤ 60
      · have H := And.intro @encF_eq @h3
        refine goB ?_
        first | exact trivial | clear H | skip
        refine callK_pureL (shaped_ok (gl := gl) n f hs) rfl ?_ ?_ ?_ <;> simp only [go_sem, seval, reduceCtorEq, encF_eq]
        have H := And.intro @h1 (And.intro @h2 @h3)
        refine goB ?_
        first | exact trivial | clear H | skip
        have H := trivial
        exact cutA
      · have H := And.intro @encF_eq (And.intro @h3 (And.intro @h1 @h2))
        refine goB ?_
        first | exact trivial | clear H | skip
        have H := trivial
        exact cutA
    · have H := And.intro @encF_eq (And.intro @h1 @h2)
      refine goB ?_
      first | exact trivial | clear H | skip
      have H := trivial
      exact cutA
  · have H := And.intro @encF_eq @h1
    refine goB ?_
    first | exact trivial | clear H | skip
    have H := trivial
    exact cutA
end
theorem encFs_app : ∀ (a b : List Fm), encFs a ++ encFs b = encFs (a ++ b)
  | [], b => rfl
  | f :: a, b => by simp only [encFs, List.cons_append, encFs_app a b]
end Go.Sx
