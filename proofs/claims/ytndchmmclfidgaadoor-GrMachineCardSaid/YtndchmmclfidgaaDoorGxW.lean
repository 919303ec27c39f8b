import Derived.Test.YtndchmmclfidgaaDoorLgAw
import Derived.Test.YtndchmmclfidgaaDoorGxV
set_option maxRecDepth 100000
set_option linter.unusedSimpArgs false
set_option linter.unusedVariables false
set_option linter.unnecessarySimpa false
namespace Go.Sx
open Go Go.Lg Go.Proofs
theorem b78 {gl : GL} : Body (C gl).P 78 Tryd.f78 (codeOf Tryd.f78) := ⟨Tryd.func78, by kernel_rfl, by kernel_rfl⟩
mutual
def WfT : Fm → Prop
  | .mk o v ar => (0 ≤ o ∧ o ≤ 8 ∧ (o = 2 → 0 ≤ v) ∧ (o = 3 → ar.length = 1) ∧ (4 ≤ o → o ≤ 7 → ar.length = 2) ∧ (o = 8 → ∃ g, ar = [g] ∧ g.op = 2 ∧ 0 ≤ g.var)) ∧ WfTL ar
def WfTL : List Fm → Prop
  | [] => True
  | f :: l => WfT f ∧ WfTL l
end
mutual
theorem WfT.wfH : ∀ f : Fm, WfT f → WfH f
  | .mk o v ar, h => by
    simp only [WfT] at h
    simp only [WfH]
    refine ⟨⟨h.1.2.2.1, h.1.2.2.2.1, h.1.2.2.2.2.1, fun h8 => ?_⟩, WfTL.wfH ar h.2⟩
    obtain ⟨g, rfl, _, h2⟩ := h.1.2.2.2.2.2 h8
    exact ⟨rfl, by simpa using h2⟩
theorem WfTL.wfH : ∀ l : List Fm, WfTL l → WfHL l
  | [], _ => trivial
  | f :: l, h => ⟨WfT.wfH f h.1, WfTL.wfH l h.2⟩
end
theorem WfTL.mem : ∀ {l : List Fm}, WfTL l → ∀ g ∈ l, WfT g
  | f :: l, h, g, hg => by
    rcases List.mem_cons.1 hg with rfl | hg
    · exact h.1
    · exact WfTL.mem h.2 g hg
section
variable {gl : GL}
theorem true_k (o v : Int) (ar : List Fm) (hw : WfT (.mk o v ar)) (ih : ∀ g ∈ ar, ∀ l k : Int, PCall (C gl) 78 [encF g, .int .i64 l, .int .i64 k] (.bool (holdsF l k g))) (l k : Int) :
    PCall (C gl) 78 [encF (.mk o v ar), .int .i64 l, .int .i64 k] (.bool (holdsF l k (.mk o v ar))) := by
  refine pcallX (callX_of b78 (by simp [Tryd.ntmps78]) ?_) (by simp only [AllCl, cl_encF, cl_int, and_true]) (.bool _)
  simp only [WfT] at hw
  obtain ⟨⟨h0, h1, hv, h3, h4, h8⟩, _⟩ := hw
  obtain ⟨n, rfl⟩ := Int.eq_ofNat_of_zero_le h0
  have hn : n = 0 ∨ n = 1 ∨ n = 2 ∨ n = 3 ∨ n = 4 ∨ n = 5 ∨ n = 6 ∨ n = 7 ∨ n = 8 := by omega
  refine W.of ?_
  rw [Tryd.ntmps78]
  simp only [toK, codeOf, Tryd.f78, go_sem, seval, reduceCtorEq]
  rcases hn with rfl | rfl | rfl | rfl | rfl | rfl | rfl | rfl | rfl
  · have H := And.intro @encFs_len (And.intro @Int.ofNat_eq_natCast @encF_eq)
    refine goB ?_
    first | exact trivial | clear H | skip
    refine ⟨by simp [holdsF], ?_⟩
    have H := And.intro @encFs_len @Int.ofNat_eq_natCast
    exact cutA
  · have H := And.intro @encFs_len (And.intro @Int.ofNat_eq_natCast @encF_eq)
    refine goB ?_
    first | exact trivial | clear H | skip
    refine ⟨by simp [holdsF], ?_⟩
    have H := And.intro @encFs_len @Int.ofNat_eq_natCast
    exact cutA
  · have hv' := hv rfl
    have H := And.intro @encFs_len (And.intro @Int.ofNat_eq_natCast @encF_eq)
    refine goB ?_
    first | exact trivial | clear H | skip
    refine ⟨by simp [holdsF, bitI], ?_⟩
    have H := And.intro @encFs_len @Int.ofNat_eq_natCast
    exact cutA
  · obtain ⟨g, rfl⟩ := List.length_eq_one_iff.1 (h3 rfl)
    have H := And.intro @encFs_len (And.intro @Int.ofNat_eq_natCast (And.intro @encF_eq (And.intro @encFs_cs @encF_eq)))
    refine goB ?_
    first | exact trivial | clear H | skip
    refine callK_pureL (ih g (List.mem_singleton.2 rfl) l k) rfl ?_ ?_ ?_ <;> simp only [go_sem, seval, reduceCtorEq, encFs_len, Int.ofNat_eq_natCast, encF_eq]
    have H := And.intro @encFs_len @Int.ofNat_eq_natCast
    refine goB ?_
    first | exact trivial | clear H | skip
    refine ⟨by simp [holdsF, holdsL], ?_⟩
    have H := And.intro @encFs_len @Int.ofNat_eq_natCast
    exact cutA
  · obtain ⟨g, h, rfl⟩ : ∃ g h, ar = [g, h] := by
      match ar, h4 (by decide) (by decide) with
      | [x, y], _ => exact ⟨x, y, rfl⟩
    have H := And.intro @encFs_len (And.intro @Int.ofNat_eq_natCast (And.intro @encF_eq (And.intro @encFs_cs @encF_eq)))
    refine goB ?_
    first | exact trivial | clear H | skip
    refine WK.draw [⟨false, 0, 0⟩, ⟨false, 0, 0⟩, ⟨false, 0, 0⟩, ⟨false, 0, 0⟩, ⟨false, 0, 0⟩, ⟨false, 0, 0⟩, ⟨true, 0, 0⟩, ⟨false, 0, 0⟩, ⟨false, 1, 0⟩, ⟨false, 1, 0⟩, ⟨false, 1, 0⟩, ⟨false, 0, 0⟩, ⟨false, 0, 0⟩, ⟨true, 0, 0⟩, ⟨false, 0, 0⟩, ⟨false, 0, 0⟩] mixed (by kernel_rfl) ?_
    simp only [go_sem, seval, reduceCtorEq, encFs_len, Int.ofNat_eq_natCast]
    refine callD_pure (ih g (by simp) l k) rfl ?_ ?_ ?_ <;> simp only [go_sem, seval, reduceCtorEq, encFs_len, Int.ofNat_eq_natCast, encF_eq]
    refine callD_pure (ih h (by simp) l k) rfl ?_ ?_ ?_ <;> simp only [go_sem, seval, reduceCtorEq, encFs_len, Int.ofNat_eq_natCast, encF_eq]
    cases hg : holdsF l k g <;> cases hh : holdsF l k h
    all_goals
      have H := And.intro @encFs_len (And.intro @Int.ofNat_eq_natCast (And.intro @hg @hh))
      refine goB ?_
      first | exact trivial | clear H | skip
      refine ⟨by simp [holdsF, holdsL, hg, hh], ?_⟩
      have H := And.intro @encFs_len @Int.ofNat_eq_natCast
      exact cutA
  · obtain ⟨g, h, rfl⟩ : ∃ g h, ar = [g, h] := by
      match ar, h4 (by decide) (by decide) with
      | [x, y], _ => exact ⟨x, y, rfl⟩
    have H := And.intro @encFs_len (And.intro @Int.ofNat_eq_natCast (And.intro @encF_eq (And.intro @encFs_cs @encF_eq)))
    refine goB ?_
    first | exact trivial | clear H | skip
    refine WK.draw [⟨false, 0, 0⟩, ⟨false, 0, 0⟩, ⟨false, 0, 0⟩, ⟨false, 0, 0⟩, ⟨false, 0, 0⟩, ⟨false, 0, 0⟩, ⟨true, 0, 0⟩, ⟨false, 0, 0⟩, ⟨false, 1, 0⟩, ⟨false, 1, 0⟩, ⟨false, 1, 0⟩, ⟨false, 0, 0⟩, ⟨false, 0, 0⟩, ⟨true, 0, 0⟩, ⟨false, 0, 0⟩, ⟨false, 0, 0⟩] mixed (by kernel_rfl) ?_
    simp only [go_sem, seval, reduceCtorEq, encFs_len, Int.ofNat_eq_natCast]
    refine callD_pure (ih g (by simp) l k) rfl ?_ ?_ ?_ <;> simp only [go_sem, seval, reduceCtorEq, encFs_len, Int.ofNat_eq_natCast, encF_eq]
    refine callD_pure (ih h (by simp) l k) rfl ?_ ?_ ?_ <;> simp only [go_sem, seval, reduceCtorEq, encFs_len, Int.ofNat_eq_natCast, encF_eq]
    cases hg : holdsF l k g <;> cases hh : holdsF l k h
    all_goals
      have H := And.intro @encFs_len (And.intro @Int.ofNat_eq_natCast (And.intro @hg @hh))
      refine goB ?_
      first | exact trivial | clear H | skip
      refine ⟨by simp [holdsF, holdsL, hg, hh], ?_⟩
      have H := And.intro @encFs_len @Int.ofNat_eq_natCast
      exact cutA
  · obtain ⟨g, h, rfl⟩ : ∃ g h, ar = [g, h] := by
      match ar, h4 (by decide) (by decide) with
      | [x, y], _ => exact ⟨x, y, rfl⟩
    have H := And.intro @encFs_len (And.intro @Int.ofNat_eq_natCast (And.intro @encF_eq (And.intro @encFs_cs @encF_eq)))
    refine goB ?_
    first | exact trivial | clear H | skip
    refine WK.draw [⟨false, 0, 0⟩, ⟨false, 0, 0⟩, ⟨false, 0, 0⟩, ⟨false, 0, 0⟩, ⟨false, 0, 0⟩, ⟨false, 0, 0⟩, ⟨true, 0, 0⟩, ⟨false, 0, 0⟩, ⟨false, 1, 0⟩, ⟨false, 1, 0⟩, ⟨false, 1, 0⟩, ⟨false, 0, 0⟩, ⟨false, 0, 0⟩, ⟨true, 0, 0⟩, ⟨false, 0, 0⟩, ⟨false, 0, 0⟩] mixed (by kernel_rfl) ?_
    simp only [go_sem, seval, reduceCtorEq, encFs_len, Int.ofNat_eq_natCast]
    refine callD_pure (ih g (by simp) l k) rfl ?_ ?_ ?_ <;> simp only [go_sem, seval, reduceCtorEq, encFs_len, Int.ofNat_eq_natCast, encF_eq]
    refine callD_pure (ih h (by simp) l k) rfl ?_ ?_ ?_ <;> simp only [go_sem, seval, reduceCtorEq, encFs_len, Int.ofNat_eq_natCast, encF_eq]
    cases hg : holdsF l k g <;> cases hh : holdsF l k h
    all_goals
      have H := And.intro @encFs_len (And.intro @Int.ofNat_eq_natCast (And.intro @hg @hh))
      refine goB ?_
      first | exact trivial | clear H | skip
      refine ⟨by simp [holdsF, holdsL, hg, hh], ?_⟩
      have H := And.intro @encFs_len @Int.ofNat_eq_natCast
      exact cutA
  · obtain ⟨g, h, rfl⟩ : ∃ g h, ar = [g, h] := by
      match ar, h4 (by decide) (by decide) with
      | [x, y], _ => exact ⟨x, y, rfl⟩
    have H := And.intro @encFs_len (And.intro @Int.ofNat_eq_natCast (And.intro @encF_eq (And.intro @encFs_cs @encF_eq)))
    refine goB ?_
    first | exact trivial | clear H | skip
    refine WK.draw [⟨false, 0, 0⟩, ⟨false, 0, 0⟩, ⟨false, 0, 0⟩, ⟨false, 0, 0⟩, ⟨false, 0, 0⟩, ⟨false, 0, 0⟩, ⟨true, 0, 0⟩, ⟨false, 0, 0⟩, ⟨false, 1, 0⟩, ⟨false, 1, 0⟩, ⟨false, 1, 0⟩, ⟨false, 0, 0⟩, ⟨false, 0, 0⟩, ⟨true, 0, 0⟩, ⟨false, 0, 0⟩, ⟨false, 0, 0⟩] mixed (by kernel_rfl) ?_
    simp only [go_sem, seval, reduceCtorEq, encFs_len, Int.ofNat_eq_natCast]
    refine callD_pure (ih g (by simp) l k) rfl ?_ ?_ ?_ <;> simp only [go_sem, seval, reduceCtorEq, encFs_len, Int.ofNat_eq_natCast, encF_eq]
    refine callD_pure (ih h (by simp) l k) rfl ?_ ?_ ?_ <;> simp only [go_sem, seval, reduceCtorEq, encFs_len, Int.ofNat_eq_natCast, encF_eq]
    cases hg : holdsF l k g <;> cases hh : holdsF l k h
    all_goals
      have H := And.intro @encFs_len (And.intro @Int.ofNat_eq_natCast (And.intro @hg @hh))
      refine goB ?_
      first | exact trivial | clear H | skip
      refine ⟨by simp [holdsF, holdsL, hg, hh], ?_⟩
      have H := And.intro @encFs_len @Int.ofNat_eq_natCast
      exact cutA
  · obtain ⟨g, rfl, hg2, hg3⟩ := h8 rfl
    have H := And.intro @encFs_len (And.intro @Int.ofNat_eq_natCast (And.intro @encF_eq (And.intro @encFs_cs @encF_eq)))
    refine goB ?_
    first | exact trivial | clear H | skip
    refine callK_pureL (ih g (List.mem_singleton.2 rfl) k k) rfl ?_ ?_ ?_ <;> simp only [go_sem, seval, reduceCtorEq, encFs_len, Int.ofNat_eq_natCast, encF_eq]
    have H := And.intro @encFs_len @Int.ofNat_eq_natCast
    refine goB ?_
    first | exact trivial | clear H | skip
    have e : holdsF k k g = bitI k g.var := by
      obtain ⟨og, vg, lg⟩ := g
      have : og = 2 := hg2
      subst this
      simp [holdsF, Fm.var]
    refine ⟨by simp [holdsF, e], ?_⟩
    have H := And.intro @encFs_len @Int.ofNat_eq_natCast
    exact cutA
theorem true_ok (f : Fm) : WfT f → ∀ l k : Int, PCall (C gl) 78 [encF f, .int .i64 l, .int .i64 k] (.bool (holdsF l k f)) := by
  induction f using Fm.ind with
  | h o v ar ih =>
    intro hw
    have hw' := hw
    simp only [WfT] at hw'
    exact true_k o v ar hw fun g hg => ih g hg (hw'.2.mem g hg)
end
theorem okNode_at {n o v : Int} {l : List Fm} (h : okNode n (.mk o v l) = true) : 0 ≤ o ∧ o ≤ 13 ∧ (l.length : Int) = arityL.getD o.toNat 0 ∧ (o = 2 → 0 ≤ v ∧ v < n) ∧ (o ≠ 2 → v = 0) := by
  have e1 : Fm.op (.mk o v l) = o := rfl
  have e2 : Fm.var (.mk o v l) = v := rfl
  have e3 : Fm.args (.mk o v l) = l := rfl
  unfold okNode at h
  rw [e1, e2, e3] at h
  simp only [Bool.and_eq_true, decide_eq_true_eq] at h
  refine ⟨h.1.1.1, h.1.1.2, h.1.2, fun h2 => ?_, fun h2 => ?_⟩
  · have := h.2; rw [if_pos h2] at this; simpa using this
  · have := h.2; rw [if_neg h2] at this; simpa using this
mutual
theorem plain_eq (n : Int) : ∀ f : Fm, (∀ g ∈ nodesF f, okNode n g = true) → plainF 0 f = plainR f ∧ (plainF 0 f = true → WfT f)
  | .mk o v l, h => by
    simp only [nodesF, List.mem_cons, forall_eq_or_imp] at h
    obtain ⟨h1, h2⟩ := h
    obtain ⟨q1, q2, q3, q4, q5⟩ := okNode_at h1
    obtain ⟨r1, r2⟩ := plainL_eq n l h2
    by_cases h8 : o = 8
    · subst h8
      obtain ⟨g, rfl⟩ : ∃ g, l = [g] := List.length_eq_one_iff.1 (by have : arityL.getD (Int.toNat 8) 0 = 1 := rfl; omega)
      obtain ⟨og, vg, lg⟩ := g
      have hg := okNode_at (h2 (.mk og vg lg) (by simp [nodesL, nodesF]))
      have hp : plainF 0 (.mk 8 v [.mk og vg lg]) = false := by
        simp only [plainF, if_true]
        rw [Bool.and_eq_false_iff, decide_eq_false_iff_not, decide_eq_false_iff_not]
        by_cases ho : og = 2
        · have := hg.2.2.2.1 ho; exact .inr (by omega)
        · exact .inl ho
      refine ⟨?_, fun ht => by rw [hp] at ht; cases ht⟩
      rw [hp]
      simp [plainR, tempF]
    · have e : plainF 0 (.mk o v l) = (decide (o < 8) && !plainN 0 l) := by simp only [plainF, if_neg h8]
      rw [e]
      constructor
      · simp only [plainR, r1, tempF]
        have e2 : (!(decide (8 ≤ o) && decide (o ≤ 13))) = decide (o < 8) := by
          rw [Bool.eq_iff_iff]; simp; omega
        rw [e2, Bool.and_comm]
      · intro ht
        simp only [Bool.and_eq_true, decide_eq_true_eq] at ht
        have hl := r2 ht.2
        have ho : o < 8 := ht.1
        have hlen : ∀ k : Nat, o = k → (l.length : Int) = arityL.getD k 0 := fun k hk => by rw [q3, hk]; rfl
        simp only [WfT]
        refine ⟨⟨q1, by omega, fun h => (q4 h).1, fun h => ?_, fun h3 h4 => ?_, fun h => absurd h h8⟩, hl⟩
        · have := hlen 3 h; have e : arityL.getD 3 0 = 1 := rfl; omega
        · have hc : o = 4 ∨ o = 5 ∨ o = 6 ∨ o = 7 := by omega
          rcases hc with h | h | h | h
          · have := hlen 4 h; have e : arityL.getD 4 0 = 2 := rfl; omega
          · have := hlen 5 h; have e : arityL.getD 5 0 = 2 := rfl; omega
          · have := hlen 6 h; have e : arityL.getD 6 0 = 2 := rfl; omega
          · have := hlen 7 h; have e : arityL.getD 7 0 = 2 := rfl; omega
theorem plainL_eq (n : Int) : ∀ l : List Fm, (∀ g ∈ nodesL l, okNode n g = true) → (!plainN 0 l) = plainRL l ∧ ((!plainN 0 l) = true → WfTL l)
  | [], _ => ⟨rfl, fun _ => trivial⟩
  | f :: l, h => by
    simp only [nodesL, List.mem_append] at h
    obtain ⟨a1, a2⟩ := plain_eq n f fun g hg => h g (.inl hg)
    obtain ⟨b1, b2⟩ := plainL_eq n l fun g hg => h g (.inr hg)
    simp only [plainN, plainRL, ← a1, ← b1, Bool.not_or, Bool.not_not, true_and, Bool.and_eq_true]
    exact fun ht => ⟨a2 ht.1, b2 ht.2⟩
end
mutual
theorem step_eq (n nx : Int) : ∀ f : Fm, (∀ g ∈ nodesF f, okNode n g = true) → plainF nx f = stepR nx f ∧ (plainF nx f = true → WfT f)
  | .mk o v l, h => by
    simp only [nodesF, List.mem_cons, forall_eq_or_imp] at h
    obtain ⟨h1, h2⟩ := h
    obtain ⟨q1, q2, q3, q4, q5⟩ := okNode_at h1
    obtain ⟨r1, r2⟩ := stepL_eq n nx l h2
    by_cases h8 : o = 8
    · subst h8
      obtain ⟨g, rfl⟩ : ∃ g, l = [g] := List.length_eq_one_iff.1 (by have : arityL.getD (Int.toNat 8) 0 = 1 := rfl; omega)
      obtain ⟨og, vg, lg⟩ := g
      have hg := okNode_at (h2 (.mk og vg lg) (by simp [nodesL, nodesF]))
      have e1 : Fm.op (.mk og vg lg) = og := rfl
      have e2 : Fm.var (.mk og vg lg) = vg := rfl
      refine ⟨by simp only [plainF, stepR, if_true, e1, e2], fun ht => ?_⟩
      simp only [plainF, if_true, Bool.and_eq_true, decide_eq_true_eq] at ht
      have hl : lg = [] := by
        have := hg.2.2.1; rw [ht.1] at this
        have e : arityL.getD (Int.toNat 2) 0 = 0 := rfl
        exact List.eq_nil_of_length_eq_zero (by omega)
      subst hl
      have hv := (hg.2.2.2.1 ht.1).1
      simp only [WfT, WfTL]
      exact ⟨⟨by omega, by omega, fun h => by omega, fun h => by omega, fun h3 h4 => by omega, fun _ => ⟨_, rfl, ht.1, hv⟩⟩, ⟨⟨hg.1, by omega, fun _ => hv, fun h => by omega, fun h3 h4 => by omega, fun h => by omega⟩, trivial⟩, trivial⟩
    · have e : plainF nx (.mk o v l) = (decide (o < 8) && !plainN nx l) := by simp only [plainF, if_neg h8]
      rw [e]
      constructor
      · simp only [stepR, if_neg h8, r1, tempF]
        have e2 : (!(decide (8 ≤ o) && decide (o ≤ 13))) = decide (o < 8) := by
          rw [Bool.eq_iff_iff]; simp; omega
        rw [e2, Bool.and_comm]
      · intro ht
        simp only [Bool.and_eq_true, decide_eq_true_eq] at ht
        have hl := r2 ht.2
        have ho : o < 8 := ht.1
        have hlen : ∀ k : Nat, o = k → (l.length : Int) = arityL.getD k 0 := fun k hk => by rw [q3, hk]; rfl
        simp only [WfT]
        refine ⟨⟨q1, by omega, fun h => (q4 h).1, fun h => ?_, fun h3 h4 => ?_, fun h => absurd h h8⟩, hl⟩
        · have := hlen 3 h; have e : arityL.getD 3 0 = 1 := rfl; omega
        · have hc : o = 4 ∨ o = 5 ∨ o = 6 ∨ o = 7 := by omega
          rcases hc with h | h | h | h
          · have := hlen 4 h; have e : arityL.getD 4 0 = 2 := rfl; omega
          · have := hlen 5 h; have e : arityL.getD 5 0 = 2 := rfl; omega
          · have := hlen 6 h; have e : arityL.getD 6 0 = 2 := rfl; omega
          · have := hlen 7 h; have e : arityL.getD 7 0 = 2 := rfl; omega
theorem stepL_eq (n nx : Int) : ∀ l : List Fm, (∀ g ∈ nodesL l, okNode n g = true) → (!plainN nx l) = stepRL nx l ∧ ((!plainN nx l) = true → WfTL l)
  | [], _ => ⟨rfl, fun _ => trivial⟩
  | f :: l, h => by
    simp only [nodesL, List.mem_append] at h
    obtain ⟨a1, a2⟩ := step_eq n nx f fun g hg => h g (.inl hg)
    obtain ⟨b1, b2⟩ := stepL_eq n nx l fun g hg => h g (.inr hg)
    simp only [plainN, stepRL, ← a1, ← b1, Bool.not_or, Bool.not_not, true_and, Bool.and_eq_true]
    exact fun ht => ⟨a2 ht.1, b2 ht.2⟩
end
theorem good_plain (f : Fm) (n : Int) : (validF f n && plainR f) = goodF f n 0 := by
  unfold goodF
  cases hv : validF f n with
  | false => rfl
  | true => rw [Bool.true_and, Bool.true_and, (plain_eq n f ((validF_iff f n).1 hv).2.2.2).1]
theorem good_step (f : Fm) (n nx : Int) : (validF f n && stepR nx f) = goodF f n nx := by
  unfold goodF
  cases hv : validF f n with
  | false => rfl
  | true => rw [Bool.true_and, Bool.true_and, (step_eq n nx f ((validF_iff f n).1 hv).2.2.2).1]
theorem good_wf {f : Fm} {n nx : Int} (h : goodF f n nx = true) : WfT f := by
  unfold goodF at h
  simp only [Bool.and_eq_true] at h
  exact (step_eq n nx f ((validF_iff f n).1 h.1).2.2.2).2 h.2
theorem rvalC_eq (c : Ct) : rvalC c = validC c := by
  unfold rvalC validC
  have e1 : (fun f => validF f (c.inn + c.out) && plainR f) = fun f => goodF f (c.inn + c.out) 0 := funext fun f => good_plain f _
  rw [good_plain, e1, List.all_cons, List.all_append, ← good_step c.se, ← good_step c.ss]
  unfold rngC
  rw [Bool.eq_iff_iff]
  simp only [Bool.and_eq_true]
  constructor
  · rintro ⟨⟨⟨h1, h2⟩, h3, h4, h5⟩, ⟨⟨h6, h7⟩, h8⟩, h9⟩
    exact ⟨⟨⟨⟨⟨⟨h1, h2⟩, h3⟩, h6, h8⟩, h7, h9⟩, h4⟩, h5⟩
  · rintro ⟨⟨⟨⟨⟨⟨h1, h2⟩, h3⟩, h6, h8⟩, h7, h9⟩, h4⟩, h5⟩
    exact ⟨⟨⟨h1, h2⟩, h3, h4, h5⟩, ⟨⟨h6, h7⟩, h8⟩, h9⟩
structure CtV (c : Ct) (a b : Nat) : Prop extends CtOK c a b where
  tie : WfT c.ie
  tis : WfT c.is
  tse : WfT c.se
  tss : WfT c.ss
  tje : ∀ f ∈ c.je, WfT f
  tjs : ∀ f ∈ c.js, WfT f
theorem valid_ct {c : Ct} (h : validC c = true) : ∃ a b, CtV c a b := by
  unfold validC at h
  simp only [Bool.and_eq_true, decide_eq_true_eq, List.all_eq_true] at h
  obtain ⟨⟨⟨⟨⟨⟨⟨⟨⟨⟨h1, h2⟩, h3⟩, h4⟩, h5⟩, g1⟩, g2⟩, g3⟩, g4⟩, g5⟩, g6⟩ := h
  obtain ⟨a, ha⟩ := Int.eq_ofNat_of_zero_le h1
  obtain ⟨b, hb⟩ := Int.eq_ofNat_of_zero_le h3
  refine ⟨a, b, { inn := ha, out := hb, a3 := by omega, b3 := by omega, ie := (good_wf g1).wfH, is := (good_wf g2).wfH, se := (good_wf g3).wfH, ss := (good_wf g4).wfH, je := fun f hf => (good_wf (g5 f hf)).wfH, js := fun f hf => (good_wf (g6 f hf)).wfH, jel := by omega, jsl := by omega, tie := good_wf g1, tis := good_wf g2, tse := good_wf g3, tss := good_wf g4, tje := fun f hf => good_wf (g5 f hf), tjs := fun f hf => good_wf (g6 f hf) }⟩
end Go.Sx
