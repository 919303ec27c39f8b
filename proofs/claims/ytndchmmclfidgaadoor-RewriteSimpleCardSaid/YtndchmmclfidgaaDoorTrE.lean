import Derived.Test.YtndchmmclfidgaaDoorTrC
import Derived.Test.YtndchmmclfidgaaDoorTrD
import Derived.Test.YtndchmmclfidgaaDoorLgAv
set_option maxRecDepth 100000
set_option maxHeartbeats 4000000
set_option linter.unusedSimpArgs false
set_option linter.unusedVariables false
set_option linter.unnecessarySimpa false
namespace Go.Sx
open Go Go.Lg Go.Proofs
theorem b122 {gl : GL} : Body (C gl).P 122 Tryd.f122 (codeOf Tryd.f122) := ⟨Tryd.func122, by kernel_rfl, by kernel_rfl⟩
/-! ## Rules make formulas smaller -/
def nN (f : Fm) : Nat := (nodesF f).length
theorem nN_pos (f : Fm) : 1 ≤ nN f := by cases f; simp [nN, nodesF]
theorem nN_0 (o v : Int) : nN (.mk o v []) = 1 := by simp [nN, nodesF, nodesL]
theorem nN_1 (o v : Int) (g : Fm) : nN (.mk o v [g]) = 1 + nN g := by simp [nN, nodesF, nodesL]; omega
theorem nN_2 (o v : Int) (g h : Fm) : nN (.mk o v [g, h]) = 1 + nN g + nN h := by simp [nN, nodesF, nodesL]; omega
theorem nN_const (b : Bool) : nN (constF b) = 1 := by cases b <;> rfl
theorem nN_not {g : Fm} (h : okA g) : nN (notF g) ≤ nN g + 1 ∧ (g.op = 0 ∨ g.op = 1 ∨ g.op = 3 → nN (notF g) ≤ nN g) := by
  have hp := nN_pos g
  unfold notF
  by_cases h0 : (g.op == 0) = true
  · rw [if_pos h0, nN_0]; omega
  rw [if_neg h0]
  by_cases h1 : (g.op == 1) = true
  · rw [if_pos h1, nN_0]; omega
  rw [if_neg h1]
  by_cases h3 : (g.op == 3) = true
  · rw [if_pos h3]
    obtain ⟨x, hx⟩ := okA_op3 h (eq_of_beq h3)
    have e := (args1 hx).1
    have : nN g = 1 + nN x := by
      obtain ⟨o, v, l⟩ := g
      simp only [fm_args] at hx
      subst hx
      exact nN_1 o v x
    rw [e]; omega
  · rw [if_neg h3, nN_1]
    simp only [beq_iff_eq] at h0 h1 h3
    omega
theorem one_lt {o v : Int} {g : Fm} (hg : okA g) : nN (oneF (.mk o v [g])).1 ≤ nN (.mk o v [g]) ∧ ((oneF (.mk o v [g])).2 = true → nN (oneF (.mk o v [g])).1 < nN (.mk o v [g])) := by
  have ha : arg (.mk o v [g]) 0 = g := rfl
  have hn := nN_not hg
  have hp := nN_pos g
  rw [nN_1]
  unfold oneF
  simp only [ha, fm_op]
  repeat' split
  all_goals simp only [nN_1, reduceCtorEq, Bool.false_eq_true, false_implies, true_implies, and_true]
  all_goals first | omega | (rename_i hh; have := hn.2 (by have := eq_of_beq hh; omega); omega)
theorem same2_lt {o v : Int} {a b : Fm} (h : (same2 (.mk o v [a, b])).2 = true) : nN (same2 (.mk o v [a, b])).1 < nN (.mk o v [a, b]) := by
  have ha : arg (.mk o v [a, b]) 0 = a := rfl
  have hp := nN_pos a
  have hp2 := nN_pos b
  rw [nN_2]
  unfold same2 at h ⊢
  simp only [ha] at h ⊢
  split
  · repeat' split
    all_goals simp only [nN_const]
    all_goals omega
  · rename_i hh; rw [if_neg hh] at h; cases h
theorem nN_pick {y : Bool} {a b : Fm} {k : Nat} (ha : nN a ≤ k) (hb : nN b ≤ k) : nN (pickF y a b) ≤ k := by unfold pickF; split <;> assumption
theorem first_lt {o v : Int} {a b : Fm} (hb : okA b) (h : (firstF (.mk o v [a, b])).2 = true) : nN (firstF (.mk o v [a, b])).1 < nN (.mk o v [a, b]) := by
  have ha : arg (.mk o v [a, b]) 0 = a := rfl
  have hbb : arg (.mk o v [a, b]) 1 = b := rfl
  have hp := nN_pos a
  have hp2 := nN_pos b
  have hn := nN_not hb
  have h9 := (one_lt (o := 9) (v := 0) hb).1
  have h10 := (one_lt (o := 10) (v := 0) hb).1
  rw [nN_1] at h9 h10
  have hc := nN_const true
  rw [nN_2]
  have key : ∀ y, nN (firstC (.mk o v [a, b]) y) ≤ nN a + nN b := by
    intro y
    unfold firstC
    simp only [ha, hbb]
    repeat' split
    all_goals first | omega | exact nN_pick (by omega) (by omega)
  unfold firstF at h ⊢
  simp only [ha] at h ⊢
  repeat' split
  all_goals first | (simp only; have := key true; have := key false; omega) | (rename_i h1 h2; rw [if_neg h1, if_neg h2] at h; cases h)
theorem second_lt {o v : Int} {a b : Fm} (hA : okA a) (h : (secondF (.mk o v [a, b])).2 = true) : nN (secondF (.mk o v [a, b])).1 < nN (.mk o v [a, b]) := by
  have ha : arg (.mk o v [a, b]) 0 = a := rfl
  have hbb : arg (.mk o v [a, b]) 1 = b := rfl
  have hp := nN_pos a
  have hp2 := nN_pos b
  have hn := nN_not hA
  have h10 := (one_lt (o := 10) (v := 0) hA).1
  rw [nN_1] at h10
  rw [nN_2]
  have key : ∀ y, nN (secondC (.mk o v [a, b]) y) ≤ nN a + nN b := by
    intro y
    unfold secondC
    simp only [ha, hbb]
    repeat' split
    all_goals first | omega | exact nN_pick (by omega) (by omega)
  unfold secondF at h ⊢
  simp only [hbb] at h ⊢
  repeat' split
  all_goals first | (simp only; have := key true; have := key false; omega) | (rename_i h1 h2; rw [if_neg h1, if_neg h2] at h; cases h)
/-- No rule is for it. -/
def irr (f : Fm) : Prop := match f.args with
  | [] => True
  | [_] => (oneF f).2 = false
  | _ => rule2 f = none
theorem rule2_some {o v : Int} {a b g : Fm} (h : okA (.mk o v [a, b])) (hr : rule2 (.mk o v [a, b]) = some g) : okA g ∧ nN g < nN (.mk o v [a, b]) := by
  have ha : okA a := okA_sub h List.mem_cons_self
  have hb : okA b := okA_sub h (List.mem_cons_of_mem _ List.mem_cons_self)
  unfold rule2 at hr
  by_cases h1 : (same2 (.mk o v [a, b])).2 = true
  · rw [if_pos h1] at hr; cases hr; exact ⟨okA_same2 h, same2_lt h1⟩
  rw [if_neg h1] at hr
  by_cases h2 : (firstF (.mk o v [a, b])).2 = true
  · rw [if_pos h2] at hr; cases hr; exact ⟨okA_first h, first_lt hb h2⟩
  rw [if_neg h2] at hr
  by_cases h3 : (secondF (.mk o v [a, b])).2 = true
  · rw [if_pos h3] at hr; cases hr; exact ⟨okA_second h, second_lt ha h3⟩
  rw [if_neg h3] at hr; cases hr
theorem mk_tot : ∀ (n : Nat) (f : Fm), okA f → nN f < n → ∃ r, mkF n f = some r ∧ okA r ∧ ((r = f ∧ irr f) ∨ nN r < nN f)
  | 0, f, _, h => by omega
  | n + 1, f, hA, hn => by
    have h3 := args012 hA
    obtain ⟨o, v, l⟩ := f
    simp only [fm_args] at h3
    rcases h3 with rfl | ⟨g, rfl⟩ | ⟨g, h, rfl⟩
    · exact ⟨_, rfl, hA, .inl ⟨rfl, trivial⟩⟩
    · have hg : okA g := okA_sub hA List.mem_cons_self
      simp only [mkF, fm_args]
      by_cases h1 : (oneF (.mk o v [g])).2 = true
      · have hl := (one_lt (o := o) (v := v) hg).2 h1
        rw [if_pos h1]
        by_cases h2 : simpleF (oneF (.mk o v [g])).1 = true
        · rw [if_pos h2]; exact ⟨_, rfl, okA_one hA, .inr hl⟩
        · rw [if_neg h2]
          obtain ⟨r, q1, q2, q3⟩ := mk_tot n _ (okA_one hA) (by omega)
          refine ⟨r, q1, q2, .inr ?_⟩
          rcases q3 with ⟨q3, _⟩ | q3
          · rw [q3]; exact hl
          · omega
      · rw [if_neg h1]
        exact ⟨_, rfl, hA, .inl ⟨rfl, Bool.eq_false_iff.2 h1⟩⟩
    · simp only [mkF, fm_args]
      cases hr : rule2 (.mk o v [g, h]) with
      | none => exact ⟨_, rfl, hA, .inl ⟨rfl, hr⟩⟩
      | some x =>
        obtain ⟨k1, k2⟩ := rule2_some hA hr
        simp only
        by_cases h2 : simpleF x = true
        · rw [if_pos h2]; exact ⟨_, rfl, k1, .inr k2⟩
        · rw [if_neg h2]
          obtain ⟨r, q1, q2, q3⟩ := mk_tot n x k1 (by omega)
          refine ⟨r, q1, q2, .inr ?_⟩
          rcases q3 with ⟨q3, _⟩ | q3
          · rw [q3]; exact k2
          · omega
def mkT (f : Fm) : Fm := (mkF (nN f + 1) f).getD f
theorem mkT_spec {f : Fm} (hA : okA f) : mkF (nN f + 1) f = some (mkT f) ∧ okA (mkT f) ∧ ((mkT f = f ∧ irr f) ∨ nN (mkT f) < nN f) := by
  obtain ⟨r, h1, h2, h3⟩ := mk_tot (nN f + 1) f hA (by omega)
  have e : mkT f = r := by unfold mkT; rw [h1]; rfl
  rw [e]; exact ⟨h1, h2, h3⟩
mutual
def allF : Fm → Fm
  | .mk o v l => mkT (.mk o v (allL l))
def allL : List Fm → List Fm
  | [] => []
  | f :: l => allF f :: allL l
end
theorem allL_map : ∀ l : List Fm, allL l = l.map allF
  | [] => rfl
  | f :: l => by rw [allL, allL_map l]; rfl
theorem okA_map {o v : Int} {l : List Fm} {φ : Fm → Fm} (h : okA (.mk o v l)) (hm : ∀ g ∈ l, okA (φ g)) : okA (.mk o v (l.map φ)) := by
  refine okA_iff.2 ⟨?_, fun g hg => ?_⟩
  · have := (okA_iff.1 h).1
    rw [okNode_eq] at this ⊢
    rw [List.length_map]; exact this
  · obtain ⟨x, hx, rfl⟩ := List.mem_map.1 hg
    exact hm x hx
theorem okA_all (f : Fm) : okA f → okA (allF f) := by
  induction f using Fm.ind with
  | h o v l ih =>
    intro h
    rw [allF, allL_map]
    exact (mkT_spec (okA_map h fun g hg => ih g hg (okA_sub h hg))).2.1
section
variable {gl : GL}
instance wmake_i (f : Fm) : Ctr (C gl) 176 [encF f] (okA f) (encF (mkT f)) := ⟨fun h => wmake_ok _ f _ h (shor_okA f h) (mkT_spec h).1⟩
theorem wall_k (o v : Int) (l : List Fm) (hA : okA (.mk o v l)) (ih : ∀ g, Ctr (C gl) 122 [encF g] (g ∈ l) (encF (allF g))) : PCall (C gl) 122 [encF (.mk o v l)] (encF (allF (.mk o v l))) := by
  have hlen := (shor_okA _ hA).1
  have hm : okA (.mk o v (l.map allF)) := okA_map hA fun g hg => okA_all g (okA_sub hA hg)
  rw [allF, allL_map]
  refine pcallX (callX_of b122 (by simp [Tryd.ntmps122]) ?_) (by simp only [AllCl, cl_encF, and_true]) (by simp only [cl_encF])
  refine W.of ?_
  rw [Tryd.ntmps122]
  simp only [toK, codeOf, Tryd.f122, go_sem, seval, reduceCtorEq]
  have H := trivial
  refine autoA ?_
  repeat' (first | (refine WK.draw (ops := #[_, _, _, _, _, _, _, _]) [dq 0 0, dq 0 1, dq 0 0, dm, dq 0 0, dm, dq 0 0, dm] mixed (by kernel_rfl) ?_; refine autoA ?_))
  try exact trivial
  refine WK.ownBox0 2 2 3 (by simp only [go_sem, seval, reduceCtorEq]; rfl) (by rfl) ?_
  simp only [go_sem, seval, reduceCtorEq]
  refine rangeA (l.length) [1, 2, 3, 12] [] (fun i => []) (fun i => (((Sto.none.add (.box [.int .i64 o, .int .i64 v, .list false (encFs l)])).add (.box [.int .i64 0, .int .i64 0, .list true []])).add (.box [.int .i64 o, .int .i64 v, .own 3 (encFs ((l.take i).map allF))])).add (.tok 3 i)) ?_ ?_
  · intro i hi
    have H := @hi
    refine autoA ?_
    repeat' (first | (refine WK.draw (ops := #[_, _, _, _, _, _, _, _]) [dq 0 0, dq 0 1, dq 0 0, dm, dq 0 0, dm, dq 0 0, dm] mixed (by kernel_rfl) ?_; refine autoA ?_))
    try exact trivial
    exact cutA
  · simp only [go_sem, seval, reduceCtorEq, List.take_length]
    have H := trivial
    refine autoA ?_
    repeat' (first | (refine WK.draw (ops := #[_, _, _, _, _, _, _, _]) [dq 0 0, dq 0 1, dq 0 0, dm, dq 0 0, dm, dq 0 0, dm] mixed (by kernel_rfl) ?_; refine autoA ?_))
    try exact trivial
    first | exact cut_none _ | exact finA
theorem wall_ok (f : Fm) : okA f → PCall (C gl) 122 [encF f] (encF (allF f)) := by
  induction f using Fm.ind with
  | h o v l ih =>
    intro h
    exact wall_k o v l h fun g => ⟨fun hg => ih g hg (okA_sub h hg)⟩
instance wall_i (f : Fm) : Ctr (C gl) 122 [encF f] (okA f) (encF (allF f)) := ⟨wall_ok f⟩
end
end Go.Sx
