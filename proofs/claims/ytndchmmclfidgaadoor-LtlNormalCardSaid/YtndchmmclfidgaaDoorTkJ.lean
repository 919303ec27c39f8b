import Derived.Test.YtndchmmclfidgaaDoorTkI
set_option maxRecDepth 100000
set_option linter.unusedSimpArgs false
set_option linter.unusedVariables false
set_option linter.unnecessarySimpa false
namespace Go.Sx
open Go Go.Lg Go.Proofs
/-! ## Normal forms are normal -/
def plainW (o : Int) (l : List Fm) : Bool := !(o == 6 || (o == 7 || (o == 3 && (!((l.length : Int) == 1) || !((l.map Fm.op).getD 0 0 == 2)))))
mutual
def plW : Fm → Bool
  | .mk o v l => plainW o l && plWL l
def plWL : List Fm → Bool
  | [] => true
  | f :: l => plW f && plWL l
end
def NF (n : Int) (f : Fm) : Prop := ∀ yes : Bool, plW (formF yes f) = true ∧ (nodesF (formF yes f)).all (okNode n) = true ∧ formF true (formF yes f) = formF yes f
theorem ok_mk (n o : Int) (l : List Fm) (h1 : 0 ≤ o) (h2 : o ≤ 13) (h3 : (l.length : Int) = arityL.getD o.toNat 0) (h4 : o ≠ 2) : okNode n (.mk o 0 l) = true := by
  rw [okNode_eq, if_neg h4, decide_eq_true h1, decide_eq_true h2, decide_eq_true h3]; rfl
theorem nodes_mk (p : Fm → Bool) (o v : Int) (l : List Fm) : (nodesF (.mk o v l)).all p = (p (.mk o v l) && (nodesL l).all p) := (rfl)
theorem nodesL_nil (p : Fm → Bool) : (nodesL []).all p = true := (rfl)
theorem nodesL_cons (p : Fm → Bool) (f : Fm) (l : List Fm) : (nodesL (f :: l)).all p = ((nodesF f).all p && (nodesL l).all p) := by
  rw [nodesL, List.all_append]
theorem okn8 (n : Int) (a : Fm) : okNode n (.mk 8 0 [a]) = true := ok_mk n 8 [a] (by decide) (by decide) rfl (by decide)
theorem okn9 (n : Int) (a : Fm) : okNode n (.mk 9 0 [a]) = true := ok_mk n 9 [a] (by decide) (by decide) rfl (by decide)
theorem okn10 (n : Int) (a : Fm) : okNode n (.mk 10 0 [a]) = true := ok_mk n 10 [a] (by decide) (by decide) rfl (by decide)
theorem okn4 (n : Int) (a b : Fm) : okNode n (.mk 4 0 [a, b]) = true := ok_mk n 4 [a, b] (by decide) (by decide) rfl (by decide)
theorem okn5 (n : Int) (a b : Fm) : okNode n (.mk 5 0 [a, b]) = true := ok_mk n 5 [a, b] (by decide) (by decide) rfl (by decide)
theorem okn11 (n : Int) (a b : Fm) : okNode n (.mk 11 0 [a, b]) = true := ok_mk n 11 [a, b] (by decide) (by decide) rfl (by decide)
theorem okn12 (n : Int) (a b : Fm) : okNode n (.mk 12 0 [a, b]) = true := ok_mk n 12 [a, b] (by decide) (by decide) rfl (by decide)
theorem okn13 (n : Int) (a b : Fm) : okNode n (.mk 13 0 [a, b]) = true := ok_mk n 13 [a, b] (by decide) (by decide) rfl (by decide)
theorem okn0 (n : Int) : okNode n (.mk 0 0 []) = true := ok_mk n 0 [] (by decide) (by decide) rfl (by decide)
theorem okn1 (n : Int) : okNode n (.mk 1 0 []) = true := ok_mk n 1 [] (by decide) (by decide) rfl (by decide)
set_option maxHeartbeats 4000000
theorem nf_k (n o v : Int) (l : List Fm) (hok : okNode n (.mk o v l) = true) (ih : ∀ g ∈ l, NF n g) : NF n (.mk o v l) := by
  have hok' := hok
  rw [okNode_eq] at hok
  simp only [Bool.and_eq_true] at hok
  obtain ⟨⟨⟨ho1, ho2⟩, hal⟩, hv⟩ := hok
  replace ho1 := of_decide_eq_true ho1
  replace ho2 := of_decide_eq_true ho2
  replace hal := of_decide_eq_true hal
  have hcs : o = 0 ∨ o = 1 ∨ o = 2 ∨ o = 3 ∨ o = 4 ∨ o = 5 ∨ o = 6 ∨ o = 7 ∨ o = 8 ∨ o = 9 ∨ o = 10 ∨ o = 11 ∨ o = 12 ∨ o = 13 := by omega
  intro yes
  rcases hcs with rfl | rfl | rfl | rfl | rfl | rfl | rfl | rfl | rfl | rfl | rfl | rfl | rfl | rfl
  · have hl0 : l = [] := List.length_eq_zero_iff.1 (by have : (l.length : Int) = 0 := hal; omega)
    subst hl0
    cases yes with
    | true =>
      have ef : formF true (.mk 0 v []) = .mk 0 0 [] := rfl
      rw [ef]
      refine ⟨by simp only [plW, plWL]; rfl, ?_, ?_⟩
      · simp only [nodes_mk, nodesL_cons, nodesL_nil, Bool.and_true, Bool.and_self, okn0]
      · simp only [formF, formL, formC]; rfl
    | false =>
      have ef : formF false (.mk 0 v []) = .mk 1 0 [] := rfl
      rw [ef]
      refine ⟨by simp only [plW, plWL]; rfl, ?_, ?_⟩
      · simp only [nodes_mk, nodesL_cons, nodesL_nil, Bool.and_true, Bool.and_self, okn1]
      · simp only [formF, formL, formC]; rfl
  · have hl0 : l = [] := List.length_eq_zero_iff.1 (by have : (l.length : Int) = 0 := hal; omega)
    subst hl0
    cases yes with
    | true =>
      have ef : formF true (.mk 1 v []) = .mk 1 0 [] := rfl
      rw [ef]
      refine ⟨by simp only [plW, plWL]; rfl, ?_, ?_⟩
      · simp only [nodes_mk, nodesL_cons, nodesL_nil, Bool.and_true, Bool.and_self, okn1]
      · simp only [formF, formL, formC]; rfl
    | false =>
      have ef : formF false (.mk 1 v []) = .mk 0 0 [] := rfl
      rw [ef]
      refine ⟨by simp only [plW, plWL]; rfl, ?_, ?_⟩
      · simp only [nodes_mk, nodesL_cons, nodesL_nil, Bool.and_true, Bool.and_self, okn0]
      · simp only [formF, formL, formC]; rfl
  · have hl0 : l = [] := List.length_eq_zero_iff.1 (by have : (l.length : Int) = 0 := hal; omega)
    subst hl0
    cases yes with
    | true =>
      have ef : formF true (.mk 2 v []) = .mk 2 v [] := rfl
      rw [ef]
      exact ⟨rfl, by rw [nodes_mk, hok']; rfl, rfl⟩
    | false =>
      have ef : formF false (.mk 2 v []) = .mk 3 0 [.mk 2 v []] := rfl
      rw [ef]
      exact ⟨rfl, by rw [nodes_mk, nodesL_cons, nodes_mk, hok', ok_mk n 3 _ (by decide) (by decide) rfl (by decide)]; rfl, rfl⟩
  · obtain ⟨g, rfl⟩ : ∃ g, l = [g] := List.length_eq_one_iff.1 (by have : (l.length : Int) = 1 := hal; omega)
    obtain ⟨g1, g2, g3⟩ := ih g (List.mem_cons_self ..) true
    obtain ⟨g4, g5, g6⟩ := ih g (List.mem_cons_self ..) false
    cases yes with
    | true =>
      have ef : formF true (.mk 3 v [g]) = formF false g := rfl
      rw [ef]
      exact ⟨g4, g5, g6⟩
    | false =>
      have ef : formF false (.mk 3 v [g]) = formF true g := rfl
      rw [ef]
      exact ⟨g1, g2, g3⟩
  · obtain ⟨g, h, rfl⟩ : ∃ g h, l = [g, h] := len_two (by have : (l.length : Int) = 2 := hal; omega)
    obtain ⟨g1, g2, g3⟩ := ih g (List.mem_cons_self ..) true
    obtain ⟨g4, g5, g6⟩ := ih g (List.mem_cons_self ..) false
    obtain ⟨h1, h2, h3⟩ := ih h (List.mem_cons_of_mem _ (List.mem_cons_self ..)) true
    obtain ⟨h4, h5, h6⟩ := ih h (List.mem_cons_of_mem _ (List.mem_cons_self ..)) false
    cases yes with
    | true =>
      have ef : formF true (.mk 4 v [g, h]) = .mk 4 0 [formF true g, formF true h] := rfl
      rw [ef]
      refine ⟨by simp only [plW, plWL, g1, g2, g3, g4, g5, g6, h1, h2, h3, h4, h5, h6]; rfl, ?_, ?_⟩
      · simp only [nodes_mk, nodesL_cons, nodesL_nil, Bool.and_true, Bool.and_self, okn4, g1, g2, g3, g4, g5, g6, h1, h2, h3, h4, h5, h6]
      · simp only [formF, formL, formC, g1, g2, g3, g4, g5, g6, h1, h2, h3, h4, h5, h6]; rfl
    | false =>
      have ef : formF false (.mk 4 v [g, h]) = .mk 5 0 [formF false g, formF false h] := rfl
      rw [ef]
      refine ⟨by simp only [plW, plWL, g1, g2, g3, g4, g5, g6, h1, h2, h3, h4, h5, h6]; rfl, ?_, ?_⟩
      · simp only [nodes_mk, nodesL_cons, nodesL_nil, Bool.and_true, Bool.and_self, okn5, g1, g2, g3, g4, g5, g6, h1, h2, h3, h4, h5, h6]
      · simp only [formF, formL, formC, g1, g2, g3, g4, g5, g6, h1, h2, h3, h4, h5, h6]; rfl
  · obtain ⟨g, h, rfl⟩ : ∃ g h, l = [g, h] := len_two (by have : (l.length : Int) = 2 := hal; omega)
    obtain ⟨g1, g2, g3⟩ := ih g (List.mem_cons_self ..) true
    obtain ⟨g4, g5, g6⟩ := ih g (List.mem_cons_self ..) false
    obtain ⟨h1, h2, h3⟩ := ih h (List.mem_cons_of_mem _ (List.mem_cons_self ..)) true
    obtain ⟨h4, h5, h6⟩ := ih h (List.mem_cons_of_mem _ (List.mem_cons_self ..)) false
    cases yes with
    | true =>
      have ef : formF true (.mk 5 v [g, h]) = .mk 5 0 [formF true g, formF true h] := rfl
      rw [ef]
      refine ⟨by simp only [plW, plWL, g1, g2, g3, g4, g5, g6, h1, h2, h3, h4, h5, h6]; rfl, ?_, ?_⟩
      · simp only [nodes_mk, nodesL_cons, nodesL_nil, Bool.and_true, Bool.and_self, okn5, g1, g2, g3, g4, g5, g6, h1, h2, h3, h4, h5, h6]
      · simp only [formF, formL, formC, g1, g2, g3, g4, g5, g6, h1, h2, h3, h4, h5, h6]; rfl
    | false =>
      have ef : formF false (.mk 5 v [g, h]) = .mk 4 0 [formF false g, formF false h] := rfl
      rw [ef]
      refine ⟨by simp only [plW, plWL, g1, g2, g3, g4, g5, g6, h1, h2, h3, h4, h5, h6]; rfl, ?_, ?_⟩
      · simp only [nodes_mk, nodesL_cons, nodesL_nil, Bool.and_true, Bool.and_self, okn4, g1, g2, g3, g4, g5, g6, h1, h2, h3, h4, h5, h6]
      · simp only [formF, formL, formC, g1, g2, g3, g4, g5, g6, h1, h2, h3, h4, h5, h6]; rfl
  · obtain ⟨g, h, rfl⟩ : ∃ g h, l = [g, h] := len_two (by have : (l.length : Int) = 2 := hal; omega)
    obtain ⟨g1, g2, g3⟩ := ih g (List.mem_cons_self ..) true
    obtain ⟨g4, g5, g6⟩ := ih g (List.mem_cons_self ..) false
    obtain ⟨h1, h2, h3⟩ := ih h (List.mem_cons_of_mem _ (List.mem_cons_self ..)) true
    obtain ⟨h4, h5, h6⟩ := ih h (List.mem_cons_of_mem _ (List.mem_cons_self ..)) false
    cases yes with
    | true =>
      have ef : formF true (.mk 6 v [g, h]) = .mk 5 0 [formF false g, formF true h] := rfl
      rw [ef]
      refine ⟨by simp only [plW, plWL, g1, g2, g3, g4, g5, g6, h1, h2, h3, h4, h5, h6]; rfl, ?_, ?_⟩
      · simp only [nodes_mk, nodesL_cons, nodesL_nil, Bool.and_true, Bool.and_self, okn5, g1, g2, g3, g4, g5, g6, h1, h2, h3, h4, h5, h6]
      · simp only [formF, formL, formC, g1, g2, g3, g4, g5, g6, h1, h2, h3, h4, h5, h6]; rfl
    | false =>
      have ef : formF false (.mk 6 v [g, h]) = .mk 4 0 [formF true g, formF false h] := rfl
      rw [ef]
      refine ⟨by simp only [plW, plWL, g1, g2, g3, g4, g5, g6, h1, h2, h3, h4, h5, h6]; rfl, ?_, ?_⟩
      · simp only [nodes_mk, nodesL_cons, nodesL_nil, Bool.and_true, Bool.and_self, okn4, g1, g2, g3, g4, g5, g6, h1, h2, h3, h4, h5, h6]
      · simp only [formF, formL, formC, g1, g2, g3, g4, g5, g6, h1, h2, h3, h4, h5, h6]; rfl
  · obtain ⟨g, h, rfl⟩ : ∃ g h, l = [g, h] := len_two (by have : (l.length : Int) = 2 := hal; omega)
    obtain ⟨g1, g2, g3⟩ := ih g (List.mem_cons_self ..) true
    obtain ⟨g4, g5, g6⟩ := ih g (List.mem_cons_self ..) false
    obtain ⟨h1, h2, h3⟩ := ih h (List.mem_cons_of_mem _ (List.mem_cons_self ..)) true
    obtain ⟨h4, h5, h6⟩ := ih h (List.mem_cons_of_mem _ (List.mem_cons_self ..)) false
    cases yes with
    | true =>
      have ef : formF true (.mk 7 v [g, h]) = .mk 5 0 [.mk 4 0 [formF true g, formF true h], .mk 4 0 [formF false g, formF false h]] := rfl
      rw [ef]
      refine ⟨by simp only [plW, plWL, g1, g2, g3, g4, g5, g6, h1, h2, h3, h4, h5, h6]; rfl, ?_, ?_⟩
      · simp only [nodes_mk, nodesL_cons, nodesL_nil, Bool.and_true, Bool.and_self, okn4, okn5, g1, g2, g3, g4, g5, g6, h1, h2, h3, h4, h5, h6]
      · simp only [formF, formL, formC, g1, g2, g3, g4, g5, g6, h1, h2, h3, h4, h5, h6]; rfl
    | false =>
      have ef : formF false (.mk 7 v [g, h]) = .mk 5 0 [.mk 4 0 [formF true g, formF false h], .mk 4 0 [formF false g, formF true h]] := rfl
      rw [ef]
      refine ⟨by simp only [plW, plWL, g1, g2, g3, g4, g5, g6, h1, h2, h3, h4, h5, h6]; rfl, ?_, ?_⟩
      · simp only [nodes_mk, nodesL_cons, nodesL_nil, Bool.and_true, Bool.and_self, okn4, okn5, g1, g2, g3, g4, g5, g6, h1, h2, h3, h4, h5, h6]
      · simp only [formF, formL, formC, g1, g2, g3, g4, g5, g6, h1, h2, h3, h4, h5, h6]; rfl
  · obtain ⟨g, rfl⟩ : ∃ g, l = [g] := List.length_eq_one_iff.1 (by have : (l.length : Int) = 1 := hal; omega)
    obtain ⟨g1, g2, g3⟩ := ih g (List.mem_cons_self ..) true
    obtain ⟨g4, g5, g6⟩ := ih g (List.mem_cons_self ..) false
    cases yes with
    | true =>
      have ef : formF true (.mk 8 v [g]) = .mk 8 0 [formF true g] := rfl
      rw [ef]
      refine ⟨by simp only [plW, plWL, g1, g2, g3, g4, g5, g6]; rfl, ?_, ?_⟩
      · simp only [nodes_mk, nodesL_cons, nodesL_nil, Bool.and_true, Bool.and_self, okn8, g1, g2, g3, g4, g5, g6]
      · simp only [formF, formL, formC, g1, g2, g3, g4, g5, g6]; rfl
    | false =>
      have ef : formF false (.mk 8 v [g]) = .mk 8 0 [formF false g] := rfl
      rw [ef]
      refine ⟨by simp only [plW, plWL, g1, g2, g3, g4, g5, g6]; rfl, ?_, ?_⟩
      · simp only [nodes_mk, nodesL_cons, nodesL_nil, Bool.and_true, Bool.and_self, okn8, g1, g2, g3, g4, g5, g6]
      · simp only [formF, formL, formC, g1, g2, g3, g4, g5, g6]; rfl
  · obtain ⟨g, rfl⟩ : ∃ g, l = [g] := List.length_eq_one_iff.1 (by have : (l.length : Int) = 1 := hal; omega)
    obtain ⟨g1, g2, g3⟩ := ih g (List.mem_cons_self ..) true
    obtain ⟨g4, g5, g6⟩ := ih g (List.mem_cons_self ..) false
    cases yes with
    | true =>
      have ef : formF true (.mk 9 v [g]) = .mk 9 0 [formF true g] := rfl
      rw [ef]
      refine ⟨by simp only [plW, plWL, g1, g2, g3, g4, g5, g6]; rfl, ?_, ?_⟩
      · simp only [nodes_mk, nodesL_cons, nodesL_nil, Bool.and_true, Bool.and_self, okn9, g1, g2, g3, g4, g5, g6]
      · simp only [formF, formL, formC, g1, g2, g3, g4, g5, g6]; rfl
    | false =>
      have ef : formF false (.mk 9 v [g]) = .mk 10 0 [formF false g] := rfl
      rw [ef]
      refine ⟨by simp only [plW, plWL, g1, g2, g3, g4, g5, g6]; rfl, ?_, ?_⟩
      · simp only [nodes_mk, nodesL_cons, nodesL_nil, Bool.and_true, Bool.and_self, okn10, g1, g2, g3, g4, g5, g6]
      · simp only [formF, formL, formC, g1, g2, g3, g4, g5, g6]; rfl
  · obtain ⟨g, rfl⟩ : ∃ g, l = [g] := List.length_eq_one_iff.1 (by have : (l.length : Int) = 1 := hal; omega)
    obtain ⟨g1, g2, g3⟩ := ih g (List.mem_cons_self ..) true
    obtain ⟨g4, g5, g6⟩ := ih g (List.mem_cons_self ..) false
    cases yes with
    | true =>
      have ef : formF true (.mk 10 v [g]) = .mk 10 0 [formF true g] := rfl
      rw [ef]
      refine ⟨by simp only [plW, plWL, g1, g2, g3, g4, g5, g6]; rfl, ?_, ?_⟩
      · simp only [nodes_mk, nodesL_cons, nodesL_nil, Bool.and_true, Bool.and_self, okn10, g1, g2, g3, g4, g5, g6]
      · simp only [formF, formL, formC, g1, g2, g3, g4, g5, g6]; rfl
    | false =>
      have ef : formF false (.mk 10 v [g]) = .mk 9 0 [formF false g] := rfl
      rw [ef]
      refine ⟨by simp only [plW, plWL, g1, g2, g3, g4, g5, g6]; rfl, ?_, ?_⟩
      · simp only [nodes_mk, nodesL_cons, nodesL_nil, Bool.and_true, Bool.and_self, okn9, g1, g2, g3, g4, g5, g6]
      · simp only [formF, formL, formC, g1, g2, g3, g4, g5, g6]; rfl
  · obtain ⟨g, h, rfl⟩ : ∃ g h, l = [g, h] := len_two (by have : (l.length : Int) = 2 := hal; omega)
    obtain ⟨g1, g2, g3⟩ := ih g (List.mem_cons_self ..) true
    obtain ⟨g4, g5, g6⟩ := ih g (List.mem_cons_self ..) false
    obtain ⟨h1, h2, h3⟩ := ih h (List.mem_cons_of_mem _ (List.mem_cons_self ..)) true
    obtain ⟨h4, h5, h6⟩ := ih h (List.mem_cons_of_mem _ (List.mem_cons_self ..)) false
    cases yes with
    | true =>
      have ef : formF true (.mk 11 v [g, h]) = .mk 11 0 [formF true g, formF true h] := rfl
      rw [ef]
      refine ⟨by simp only [plW, plWL, g1, g2, g3, g4, g5, g6, h1, h2, h3, h4, h5, h6]; rfl, ?_, ?_⟩
      · simp only [nodes_mk, nodesL_cons, nodesL_nil, Bool.and_true, Bool.and_self, okn11, g1, g2, g3, g4, g5, g6, h1, h2, h3, h4, h5, h6]
      · simp only [formF, formL, formC, g1, g2, g3, g4, g5, g6, h1, h2, h3, h4, h5, h6]; rfl
    | false =>
      have ef : formF false (.mk 11 v [g, h]) = .mk 12 0 [formF false g, formF false h] := rfl
      rw [ef]
      refine ⟨by simp only [plW, plWL, g1, g2, g3, g4, g5, g6, h1, h2, h3, h4, h5, h6]; rfl, ?_, ?_⟩
      · simp only [nodes_mk, nodesL_cons, nodesL_nil, Bool.and_true, Bool.and_self, okn12, g1, g2, g3, g4, g5, g6, h1, h2, h3, h4, h5, h6]
      · simp only [formF, formL, formC, g1, g2, g3, g4, g5, g6, h1, h2, h3, h4, h5, h6]; rfl
  · obtain ⟨g, h, rfl⟩ : ∃ g h, l = [g, h] := len_two (by have : (l.length : Int) = 2 := hal; omega)
    obtain ⟨g1, g2, g3⟩ := ih g (List.mem_cons_self ..) true
    obtain ⟨g4, g5, g6⟩ := ih g (List.mem_cons_self ..) false
    obtain ⟨h1, h2, h3⟩ := ih h (List.mem_cons_of_mem _ (List.mem_cons_self ..)) true
    obtain ⟨h4, h5, h6⟩ := ih h (List.mem_cons_of_mem _ (List.mem_cons_self ..)) false
    cases yes with
    | true =>
      have ef : formF true (.mk 12 v [g, h]) = .mk 12 0 [formF true g, formF true h] := rfl
      rw [ef]
      refine ⟨by simp only [plW, plWL, g1, g2, g3, g4, g5, g6, h1, h2, h3, h4, h5, h6]; rfl, ?_, ?_⟩
      · simp only [nodes_mk, nodesL_cons, nodesL_nil, Bool.and_true, Bool.and_self, okn12, g1, g2, g3, g4, g5, g6, h1, h2, h3, h4, h5, h6]
      · simp only [formF, formL, formC, g1, g2, g3, g4, g5, g6, h1, h2, h3, h4, h5, h6]; rfl
    | false =>
      have ef : formF false (.mk 12 v [g, h]) = .mk 11 0 [formF false g, formF false h] := rfl
      rw [ef]
      refine ⟨by simp only [plW, plWL, g1, g2, g3, g4, g5, g6, h1, h2, h3, h4, h5, h6]; rfl, ?_, ?_⟩
      · simp only [nodes_mk, nodesL_cons, nodesL_nil, Bool.and_true, Bool.and_self, okn11, g1, g2, g3, g4, g5, g6, h1, h2, h3, h4, h5, h6]
      · simp only [formF, formL, formC, g1, g2, g3, g4, g5, g6, h1, h2, h3, h4, h5, h6]; rfl
  · obtain ⟨g, h, rfl⟩ : ∃ g h, l = [g, h] := len_two (by have : (l.length : Int) = 2 := hal; omega)
    obtain ⟨g1, g2, g3⟩ := ih g (List.mem_cons_self ..) true
    obtain ⟨g4, g5, g6⟩ := ih g (List.mem_cons_self ..) false
    obtain ⟨h1, h2, h3⟩ := ih h (List.mem_cons_of_mem _ (List.mem_cons_self ..)) true
    obtain ⟨h4, h5, h6⟩ := ih h (List.mem_cons_of_mem _ (List.mem_cons_self ..)) false
    cases yes with
    | true =>
      have ef : formF true (.mk 13 v [g, h]) = .mk 13 0 [formF true g, formF true h] := rfl
      rw [ef]
      refine ⟨by simp only [plW, plWL, g1, g2, g3, g4, g5, g6, h1, h2, h3, h4, h5, h6]; rfl, ?_, ?_⟩
      · simp only [nodes_mk, nodesL_cons, nodesL_nil, Bool.and_true, Bool.and_self, okn13, g1, g2, g3, g4, g5, g6, h1, h2, h3, h4, h5, h6]
      · simp only [formF, formL, formC, g1, g2, g3, g4, g5, g6, h1, h2, h3, h4, h5, h6]; rfl
    | false =>
      have ef : formF false (.mk 13 v [g, h]) = .mk 11 0 [.mk 4 0 [formF true g, formF false h], .mk 4 0 [formF false g, formF false h]] := rfl
      rw [ef]
      refine ⟨by simp only [plW, plWL, g1, g2, g3, g4, g5, g6, h1, h2, h3, h4, h5, h6]; rfl, ?_, ?_⟩
      · simp only [nodes_mk, nodesL_cons, nodesL_nil, Bool.and_true, Bool.and_self, okn11, okn4, g1, g2, g3, g4, g5, g6, h1, h2, h3, h4, h5, h6]
      · simp only [formF, formL, formC, g1, g2, g3, g4, g5, g6, h1, h2, h3, h4, h5, h6]; rfl

/-! ### How many nodes they have -/
def capd (x y : Int) : Prop := (61 < x ∧ y = 61) ∨ (x ≤ 61 ∧ y = x)
theorem capd_if (x z : Int) (h : (61 < x ∧ 61 ≤ z) ∨ (x ≤ 61 ∧ z = x)) : capd x (if 61 < z then 61 else z) := by
  unfold capd
  split <;> omega
def CN (f : Fm) : Prop := capd ((nodesF (formF true f)).length : Int) (cntF f).1 ∧ capd ((nodesF (formF false f)).length : Int) (cntF f).2
theorem cn_k (n o v : Int) (l : List Fm) (hok : okNode n (.mk o v l) = true) (ih : ∀ g ∈ l, CN g) : CN (.mk o v l) := by
  rw [okNode_eq] at hok
  simp only [Bool.and_eq_true] at hok
  obtain ⟨⟨⟨ho1, ho2⟩, hal⟩, hv⟩ := hok
  replace ho1 := of_decide_eq_true ho1
  replace ho2 := of_decide_eq_true ho2
  replace hal := of_decide_eq_true hal
  have hcs : o = 0 ∨ o = 1 ∨ o = 2 ∨ o = 3 ∨ o = 4 ∨ o = 5 ∨ o = 6 ∨ o = 7 ∨ o = 8 ∨ o = 9 ∨ o = 10 ∨ o = 11 ∨ o = 12 ∨ o = 13 := by omega
  rcases hcs with rfl | rfl | rfl | rfl | rfl | rfl | rfl | rfl | rfl | rfl | rfl | rfl | rfl | rfl
  · have hl0 : l = [] := List.length_eq_zero_iff.1 (by have : (l.length : Int) = 0 := hal; omega)
    subst hl0
    have ef1 : formF true (.mk 0 v []) = .mk 0 0 [] := rfl
    have ef2 : formF false (.mk 0 v []) = .mk 1 0 [] := rfl
    have c1 : (cntF (.mk 0 v [])).1 = if (61 : Int) < 1 then 61 else 1 := rfl
    have c2 : (cntF (.mk 0 v [])).2 = if (61 : Int) < 1 then 61 else 1 := rfl
    refine ⟨?_, ?_⟩
    · rw [ef1, c1]
      refine capd_if _ _ ?_
      try simp only [nodesF, nodesL, List.length_cons, List.length_append, List.length_nil]
      omega
    · rw [ef2, c2]
      refine capd_if _ _ ?_
      try simp only [nodesF, nodesL, List.length_cons, List.length_append, List.length_nil]
      omega
  · have hl0 : l = [] := List.length_eq_zero_iff.1 (by have : (l.length : Int) = 0 := hal; omega)
    subst hl0
    have ef1 : formF true (.mk 1 v []) = .mk 1 0 [] := rfl
    have ef2 : formF false (.mk 1 v []) = .mk 0 0 [] := rfl
    have c1 : (cntF (.mk 1 v [])).1 = if (61 : Int) < 1 then 61 else 1 := rfl
    have c2 : (cntF (.mk 1 v [])).2 = if (61 : Int) < 1 then 61 else 1 := rfl
    refine ⟨?_, ?_⟩
    · rw [ef1, c1]
      refine capd_if _ _ ?_
      try simp only [nodesF, nodesL, List.length_cons, List.length_append, List.length_nil]
      omega
    · rw [ef2, c2]
      refine capd_if _ _ ?_
      try simp only [nodesF, nodesL, List.length_cons, List.length_append, List.length_nil]
      omega
  · have hl0 : l = [] := List.length_eq_zero_iff.1 (by have : (l.length : Int) = 0 := hal; omega)
    subst hl0
    have ef1 : formF true (.mk 2 v []) = .mk 2 v [] := rfl
    have ef2 : formF false (.mk 2 v []) = .mk 3 0 [.mk 2 v []] := rfl
    have c1 : (cntF (.mk 2 v [])).1 = if (61 : Int) < 1 then 61 else 1 := rfl
    have c2 : (cntF (.mk 2 v [])).2 = if (61 : Int) < 2 then 61 else 2 := rfl
    refine ⟨?_, ?_⟩
    · rw [ef1, c1]
      refine capd_if _ _ ?_
      try simp only [nodesF, nodesL, List.length_cons, List.length_append, List.length_nil]
      omega
    · rw [ef2, c2]
      refine capd_if _ _ ?_
      try simp only [nodesF, nodesL, List.length_cons, List.length_append, List.length_nil]
      omega
  · obtain ⟨g, rfl⟩ : ∃ g, l = [g] := List.length_eq_one_iff.1 (by have : (l.length : Int) = 1 := hal; omega)
    obtain ⟨g1, g2⟩ := ih g (List.mem_cons_self ..)
    have bg := cntF_le g
    unfold capd at g1 g2
    have ef1 : formF true (.mk 3 v [g]) = formF false g := rfl
    have ef2 : formF false (.mk 3 v [g]) = formF true g := rfl
    have c1 : (cntF (.mk 3 v [g])).1 = if (61 : Int) < (cntF g).2 then 61 else (cntF g).2 := rfl
    have c2 : (cntF (.mk 3 v [g])).2 = if (61 : Int) < (cntF g).1 then 61 else (cntF g).1 := rfl
    refine ⟨?_, ?_⟩
    · rw [ef1, c1]
      refine capd_if _ _ ?_
      try simp only [nodesF, nodesL, List.length_cons, List.length_append, List.length_nil]
      omega
    · rw [ef2, c2]
      refine capd_if _ _ ?_
      try simp only [nodesF, nodesL, List.length_cons, List.length_append, List.length_nil]
      omega
  · obtain ⟨g, h, rfl⟩ : ∃ g h, l = [g, h] := len_two (by have : (l.length : Int) = 2 := hal; omega)
    obtain ⟨g1, g2⟩ := ih g (List.mem_cons_self ..)
    obtain ⟨h1, h2⟩ := ih h (List.mem_cons_of_mem _ (List.mem_cons_self ..))
    have bg := cntF_le g
    have bh := cntF_le h
    unfold capd at g1 g2 h1 h2
    have ef1 : formF true (.mk 4 v [g, h]) = .mk 4 0 [formF true g, formF true h] := rfl
    have ef2 : formF false (.mk 4 v [g, h]) = .mk 5 0 [formF false g, formF false h] := rfl
    have c1 : (cntF (.mk 4 v [g, h])).1 = if (61 : Int) < 1 + (cntF g).1 + (cntF h).1 then 61 else 1 + (cntF g).1 + (cntF h).1 := rfl
    have c2 : (cntF (.mk 4 v [g, h])).2 = if (61 : Int) < 1 + (cntF g).2 + (cntF h).2 then 61 else 1 + (cntF g).2 + (cntF h).2 := rfl
    refine ⟨?_, ?_⟩
    · rw [ef1, c1]
      refine capd_if _ _ ?_
      try simp only [nodesF, nodesL, List.length_cons, List.length_append, List.length_nil]
      omega
    · rw [ef2, c2]
      refine capd_if _ _ ?_
      try simp only [nodesF, nodesL, List.length_cons, List.length_append, List.length_nil]
      omega
  · obtain ⟨g, h, rfl⟩ : ∃ g h, l = [g, h] := len_two (by have : (l.length : Int) = 2 := hal; omega)
    obtain ⟨g1, g2⟩ := ih g (List.mem_cons_self ..)
    obtain ⟨h1, h2⟩ := ih h (List.mem_cons_of_mem _ (List.mem_cons_self ..))
    have bg := cntF_le g
    have bh := cntF_le h
    unfold capd at g1 g2 h1 h2
    have ef1 : formF true (.mk 5 v [g, h]) = .mk 5 0 [formF true g, formF true h] := rfl
    have ef2 : formF false (.mk 5 v [g, h]) = .mk 4 0 [formF false g, formF false h] := rfl
    have c1 : (cntF (.mk 5 v [g, h])).1 = if (61 : Int) < 1 + (cntF g).1 + (cntF h).1 then 61 else 1 + (cntF g).1 + (cntF h).1 := rfl
    have c2 : (cntF (.mk 5 v [g, h])).2 = if (61 : Int) < 1 + (cntF g).2 + (cntF h).2 then 61 else 1 + (cntF g).2 + (cntF h).2 := rfl
    refine ⟨?_, ?_⟩
    · rw [ef1, c1]
      refine capd_if _ _ ?_
      try simp only [nodesF, nodesL, List.length_cons, List.length_append, List.length_nil]
      omega
    · rw [ef2, c2]
      refine capd_if _ _ ?_
      try simp only [nodesF, nodesL, List.length_cons, List.length_append, List.length_nil]
      omega
  · obtain ⟨g, h, rfl⟩ : ∃ g h, l = [g, h] := len_two (by have : (l.length : Int) = 2 := hal; omega)
    obtain ⟨g1, g2⟩ := ih g (List.mem_cons_self ..)
    obtain ⟨h1, h2⟩ := ih h (List.mem_cons_of_mem _ (List.mem_cons_self ..))
    have bg := cntF_le g
    have bh := cntF_le h
    unfold capd at g1 g2 h1 h2
    have ef1 : formF true (.mk 6 v [g, h]) = .mk 5 0 [formF false g, formF true h] := rfl
    have ef2 : formF false (.mk 6 v [g, h]) = .mk 4 0 [formF true g, formF false h] := rfl
    have c1 : (cntF (.mk 6 v [g, h])).1 = if (61 : Int) < 1 + (cntF g).2 + (cntF h).1 then 61 else 1 + (cntF g).2 + (cntF h).1 := rfl
    have c2 : (cntF (.mk 6 v [g, h])).2 = if (61 : Int) < 1 + (cntF g).1 + (cntF h).2 then 61 else 1 + (cntF g).1 + (cntF h).2 := rfl
    refine ⟨?_, ?_⟩
    · rw [ef1, c1]
      refine capd_if _ _ ?_
      try simp only [nodesF, nodesL, List.length_cons, List.length_append, List.length_nil]
      omega
    · rw [ef2, c2]
      refine capd_if _ _ ?_
      try simp only [nodesF, nodesL, List.length_cons, List.length_append, List.length_nil]
      omega
  · obtain ⟨g, h, rfl⟩ : ∃ g h, l = [g, h] := len_two (by have : (l.length : Int) = 2 := hal; omega)
    obtain ⟨g1, g2⟩ := ih g (List.mem_cons_self ..)
    obtain ⟨h1, h2⟩ := ih h (List.mem_cons_of_mem _ (List.mem_cons_self ..))
    have bg := cntF_le g
    have bh := cntF_le h
    unfold capd at g1 g2 h1 h2
    have ef1 : formF true (.mk 7 v [g, h]) = .mk 5 0 [.mk 4 0 [formF true g, formF true h], .mk 4 0 [formF false g, formF false h]] := rfl
    have ef2 : formF false (.mk 7 v [g, h]) = .mk 5 0 [.mk 4 0 [formF true g, formF false h], .mk 4 0 [formF false g, formF true h]] := rfl
    have c1 : (cntF (.mk 7 v [g, h])).1 = if (61 : Int) < 3 + (cntF g).1 + (cntF g).2 + (cntF h).1 + (cntF h).2 then 61 else 3 + (cntF g).1 + (cntF g).2 + (cntF h).1 + (cntF h).2 := rfl
    have c2 : (cntF (.mk 7 v [g, h])).2 = if (61 : Int) < 3 + (cntF g).1 + (cntF g).2 + (cntF h).1 + (cntF h).2 then 61 else 3 + (cntF g).1 + (cntF g).2 + (cntF h).1 + (cntF h).2 := rfl
    refine ⟨?_, ?_⟩
    · rw [ef1, c1]
      refine capd_if _ _ ?_
      try simp only [nodesF, nodesL, List.length_cons, List.length_append, List.length_nil]
      omega
    · rw [ef2, c2]
      refine capd_if _ _ ?_
      try simp only [nodesF, nodesL, List.length_cons, List.length_append, List.length_nil]
      omega
  · obtain ⟨g, rfl⟩ : ∃ g, l = [g] := List.length_eq_one_iff.1 (by have : (l.length : Int) = 1 := hal; omega)
    obtain ⟨g1, g2⟩ := ih g (List.mem_cons_self ..)
    have bg := cntF_le g
    unfold capd at g1 g2
    have ef1 : formF true (.mk 8 v [g]) = .mk 8 0 [formF true g] := rfl
    have ef2 : formF false (.mk 8 v [g]) = .mk 8 0 [formF false g] := rfl
    have c1 : (cntF (.mk 8 v [g])).1 = if (61 : Int) < 1 + (cntF g).1 then 61 else 1 + (cntF g).1 := rfl
    have c2 : (cntF (.mk 8 v [g])).2 = if (61 : Int) < 1 + (cntF g).2 then 61 else 1 + (cntF g).2 := rfl
    refine ⟨?_, ?_⟩
    · rw [ef1, c1]
      refine capd_if _ _ ?_
      try simp only [nodesF, nodesL, List.length_cons, List.length_append, List.length_nil]
      omega
    · rw [ef2, c2]
      refine capd_if _ _ ?_
      try simp only [nodesF, nodesL, List.length_cons, List.length_append, List.length_nil]
      omega
  · obtain ⟨g, rfl⟩ : ∃ g, l = [g] := List.length_eq_one_iff.1 (by have : (l.length : Int) = 1 := hal; omega)
    obtain ⟨g1, g2⟩ := ih g (List.mem_cons_self ..)
    have bg := cntF_le g
    unfold capd at g1 g2
    have ef1 : formF true (.mk 9 v [g]) = .mk 9 0 [formF true g] := rfl
    have ef2 : formF false (.mk 9 v [g]) = .mk 10 0 [formF false g] := rfl
    have c1 : (cntF (.mk 9 v [g])).1 = if (61 : Int) < 1 + (cntF g).1 then 61 else 1 + (cntF g).1 := rfl
    have c2 : (cntF (.mk 9 v [g])).2 = if (61 : Int) < 1 + (cntF g).2 then 61 else 1 + (cntF g).2 := rfl
    refine ⟨?_, ?_⟩
    · rw [ef1, c1]
      refine capd_if _ _ ?_
      try simp only [nodesF, nodesL, List.length_cons, List.length_append, List.length_nil]
      omega
    · rw [ef2, c2]
      refine capd_if _ _ ?_
      try simp only [nodesF, nodesL, List.length_cons, List.length_append, List.length_nil]
      omega
  · obtain ⟨g, rfl⟩ : ∃ g, l = [g] := List.length_eq_one_iff.1 (by have : (l.length : Int) = 1 := hal; omega)
    obtain ⟨g1, g2⟩ := ih g (List.mem_cons_self ..)
    have bg := cntF_le g
    unfold capd at g1 g2
    have ef1 : formF true (.mk 10 v [g]) = .mk 10 0 [formF true g] := rfl
    have ef2 : formF false (.mk 10 v [g]) = .mk 9 0 [formF false g] := rfl
    have c1 : (cntF (.mk 10 v [g])).1 = if (61 : Int) < 1 + (cntF g).1 then 61 else 1 + (cntF g).1 := rfl
    have c2 : (cntF (.mk 10 v [g])).2 = if (61 : Int) < 1 + (cntF g).2 then 61 else 1 + (cntF g).2 := rfl
    refine ⟨?_, ?_⟩
    · rw [ef1, c1]
      refine capd_if _ _ ?_
      try simp only [nodesF, nodesL, List.length_cons, List.length_append, List.length_nil]
      omega
    · rw [ef2, c2]
      refine capd_if _ _ ?_
      try simp only [nodesF, nodesL, List.length_cons, List.length_append, List.length_nil]
      omega
  · obtain ⟨g, h, rfl⟩ : ∃ g h, l = [g, h] := len_two (by have : (l.length : Int) = 2 := hal; omega)
    obtain ⟨g1, g2⟩ := ih g (List.mem_cons_self ..)
    obtain ⟨h1, h2⟩ := ih h (List.mem_cons_of_mem _ (List.mem_cons_self ..))
    have bg := cntF_le g
    have bh := cntF_le h
    unfold capd at g1 g2 h1 h2
    have ef1 : formF true (.mk 11 v [g, h]) = .mk 11 0 [formF true g, formF true h] := rfl
    have ef2 : formF false (.mk 11 v [g, h]) = .mk 12 0 [formF false g, formF false h] := rfl
    have c1 : (cntF (.mk 11 v [g, h])).1 = if (61 : Int) < 1 + (cntF g).1 + (cntF h).1 then 61 else 1 + (cntF g).1 + (cntF h).1 := rfl
    have c2 : (cntF (.mk 11 v [g, h])).2 = if (61 : Int) < 1 + (cntF g).2 + (cntF h).2 then 61 else 1 + (cntF g).2 + (cntF h).2 := rfl
    refine ⟨?_, ?_⟩
    · rw [ef1, c1]
      refine capd_if _ _ ?_
      try simp only [nodesF, nodesL, List.length_cons, List.length_append, List.length_nil]
      omega
    · rw [ef2, c2]
      refine capd_if _ _ ?_
      try simp only [nodesF, nodesL, List.length_cons, List.length_append, List.length_nil]
      omega
  · obtain ⟨g, h, rfl⟩ : ∃ g h, l = [g, h] := len_two (by have : (l.length : Int) = 2 := hal; omega)
    obtain ⟨g1, g2⟩ := ih g (List.mem_cons_self ..)
    obtain ⟨h1, h2⟩ := ih h (List.mem_cons_of_mem _ (List.mem_cons_self ..))
    have bg := cntF_le g
    have bh := cntF_le h
    unfold capd at g1 g2 h1 h2
    have ef1 : formF true (.mk 12 v [g, h]) = .mk 12 0 [formF true g, formF true h] := rfl
    have ef2 : formF false (.mk 12 v [g, h]) = .mk 11 0 [formF false g, formF false h] := rfl
    have c1 : (cntF (.mk 12 v [g, h])).1 = if (61 : Int) < 1 + (cntF g).1 + (cntF h).1 then 61 else 1 + (cntF g).1 + (cntF h).1 := rfl
    have c2 : (cntF (.mk 12 v [g, h])).2 = if (61 : Int) < 1 + (cntF g).2 + (cntF h).2 then 61 else 1 + (cntF g).2 + (cntF h).2 := rfl
    refine ⟨?_, ?_⟩
    · rw [ef1, c1]
      refine capd_if _ _ ?_
      try simp only [nodesF, nodesL, List.length_cons, List.length_append, List.length_nil]
      omega
    · rw [ef2, c2]
      refine capd_if _ _ ?_
      try simp only [nodesF, nodesL, List.length_cons, List.length_append, List.length_nil]
      omega
  · obtain ⟨g, h, rfl⟩ : ∃ g h, l = [g, h] := len_two (by have : (l.length : Int) = 2 := hal; omega)
    obtain ⟨g1, g2⟩ := ih g (List.mem_cons_self ..)
    obtain ⟨h1, h2⟩ := ih h (List.mem_cons_of_mem _ (List.mem_cons_self ..))
    have bg := cntF_le g
    have bh := cntF_le h
    unfold capd at g1 g2 h1 h2
    have ef1 : formF true (.mk 13 v [g, h]) = .mk 13 0 [formF true g, formF true h] := rfl
    have ef2 : formF false (.mk 13 v [g, h]) = .mk 11 0 [.mk 4 0 [formF true g, formF false h], .mk 4 0 [formF false g, formF false h]] := rfl
    have c1 : (cntF (.mk 13 v [g, h])).1 = if (61 : Int) < 1 + (cntF g).1 + (cntF h).1 then 61 else 1 + (cntF g).1 + (cntF h).1 := rfl
    have c2 : (cntF (.mk 13 v [g, h])).2 = if (61 : Int) < 3 + (cntF g).1 + (cntF g).2 + 2 * (cntF h).2 then 61 else 3 + (cntF g).1 + (cntF g).2 + 2 * (cntF h).2 := rfl
    refine ⟨?_, ?_⟩
    · rw [ef1, c1]
      refine capd_if _ _ ?_
      try simp only [nodesF, nodesL, List.length_cons, List.length_append, List.length_nil]
      omega
    · rw [ef2, c2]
      refine capd_if _ _ ?_
      try simp only [nodesF, nodesL, List.length_cons, List.length_append, List.length_nil]
      omega
theorem nf_all (n : Int) (f : Fm) : (∀ g ∈ nodesF f, okNode n g = true) → NF n f := by
  induction f using Fm.ind with
  | h o v l ih =>
    intro hok
    exact nf_k n o v l (hok _ (nodes_self _)) fun g hg => ih g hg fun x hx => hok x (by rw [nodesF]; exact List.mem_cons_of_mem _ (nodesL_sub hg hx))
theorem cn_all (n : Int) (f : Fm) : (∀ g ∈ nodesF f, okNode n g = true) → CN f := by
  induction f using Fm.ind with
  | h o v l ih =>
    intro hok
    exact cn_k n o v l (hok _ (nodes_self _)) fun g hg => ih g hg fun x hx => hok x (by rw [nodesF]; exact List.mem_cons_of_mem _ (nodesL_sub hg hx))
/-- A normal form is its own. -/
theorem nnf_again (yes : Bool) (f : Fm) (h : (nnfS yes f).2 = 0) : nnfS true (nnfS yes f).1 = ((nnfS yes f).1, 0) ∧ plW (nnfS yes f).1 = true ∧ (nodesF (nnfS yes f).1).length ≤ 60 := by
  by_cases hv : validF f 6 = true
  · by_cases hc : (if yes then (cntF f).1 else (cntF f).2) > 60
    · have e : nnfS yes f = (fz, 3) := by unfold nnfS; rw [if_pos hv, if_pos hc]
      rw [e] at h; cases h
    · have hok := (validF_iff f 6).1 hv
      have e : nnfS yes f = (formF yes f, 0) := by unfold nnfS; rw [if_pos hv, if_neg hc]
      rw [e]
      obtain ⟨a1, a2, a3⟩ := nf_all 6 f hok.2.2.2 yes
      have cn := cn_all 6 f hok.2.2.2
      have hn : (nodesF (formF yes f)).length ≤ 60 := by
        obtain ⟨k1, k2⟩ := cn
        unfold capd at k1 k2
        cases yes with
        | true => simp only [if_true] at hc; omega
        | false => simp only [Bool.false_eq_true, if_false] at hc; omega
      have hall : ∀ x ∈ nodesF (formF yes f), okNode 6 x = true := fun x hx => List.all_eq_true.1 a2 x hx
      have hv2 : validF (formF yes f) 6 = true := (validF_iff _ 6).2 ⟨by decide, by decide, hn, hall⟩
      have cn2 := (cn_all 6 (formF yes f) hall).1
      rw [a3] at cn2
      unfold capd at cn2
      refine ⟨?_, a1, hn⟩
      show nnfS true (formF yes f) = _
      unfold nnfS
      rw [if_pos hv2, if_pos rfl, if_neg (by omega), a3]
  · have e : nnfS yes f = (fz, 1) := by unfold nnfS; rw [if_neg hv]
    rw [e] at h; cases h
end Go.Sx
