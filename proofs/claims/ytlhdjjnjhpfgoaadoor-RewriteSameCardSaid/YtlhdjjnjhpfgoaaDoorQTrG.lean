import Derived.Test.YtlhdjjnjhpfgoaaDoorQTrC
import Derived.Test.YtlhdjjnjhpfgoaaDoorQShA
import Derived.Test.YtlhdjjnjhpfgoaaDoorQTrD
import Derived.Test.YtlhdjjnjhpfgoaaDoorLgAv
set_option maxRecDepth 100000
set_option maxHeartbeats 4000000
set_option linter.unusedSimpArgs false
set_option linter.unusedVariables false
set_option linter.unnecessarySimpa false
namespace Go.Sx
open Go Go.Lg Go.Proofs
theorem b29 {gl : GL} : Body (C gl).P 29 Tryd.f29 (codeOf Tryd.f29) := ⟨Tryd.func29, by kernel_rfl, by kernel_rfl⟩
/-! ## Rules make formulas smaller -/
theorem nN_0 (o v : Int) : nN (.mk o v []) = 1 := by simp [nN, nodesF, nodesL]
theorem nN_1 (o v : Int) (g : Fm) : nN (.mk o v [g]) = 1 + nN g := by simp [nN, nodesF, nodesL]; omega
theorem nN_2 (o v : Int) (g h : Fm) : nN (.mk o v [g, h]) = 1 + nN g + nN h := by simp [nN, nodesF, nodesL]; omega
theorem nN_const (b : Bool) : nN (constF b) = 1 := by cases b <;> rfl
theorem nN_not {g : Fm} (h : okA g) : nN (notF g) ≤ nN g + 1 ∧ (g.op = 0 ∨ g.op = 1 ∨ g.op = 3 → nN (notF g) ≤ nN g) := by
  have hp := nN_pos g
  unfold notF
  by_cases h0 : (g.op == 0) = true
  · rw [if_pos h0, nN_0]; omega
  rw [if_neg h0]
  by_cases h1 : (g.op == 1) = true
  · rw [if_pos h1, nN_0]; omega
  rw [if_neg h1]
  by_cases h3 : (g.op == 3) = true
  · rw [if_pos h3]
    obtain ⟨x, hx⟩ := okA_op3 h (eq_of_beq h3)
    have e := (args1 hx).1
    have : nN g = 1 + nN x := by
      obtain ⟨o, v, l⟩ := g
      simp only [fm_args] at hx
      subst hx
      exact nN_1 o v x
    rw [e]; omega
  · rw [if_neg h3, nN_1]
    simp only [beq_iff_eq] at h0 h1 h3
    omega
theorem one_lt {o v : Int} {g : Fm} (hg : okA g) : nN (oneF (.mk o v [g])).1 ≤ nN (.mk o v [g]) ∧ ((oneF (.mk o v [g])).2 = true → nN (oneF (.mk o v [g])).1 < nN (.mk o v [g])) := by
  have ha : arg (.mk o v [g]) 0 = g := rfl
  have hn := nN_not hg
  have hp := nN_pos g
  rw [nN_1]
  unfold oneF
  simp only [ha, fm_op]
  repeat' split
  all_goals simp only [nN_1, reduceCtorEq, Bool.false_eq_true, false_implies, true_implies, and_true]
  all_goals first | omega | (rename_i hh; have := hn.2 (by have := eq_of_beq hh; omega); omega)
theorem same2_lt {o v : Int} {a b : Fm} (h : (same2 (.mk o v [a, b])).2 = true) : nN (same2 (.mk o v [a, b])).1 < nN (.mk o v [a, b]) := by
  have ha : arg (.mk o v [a, b]) 0 = a := rfl
  have hp := nN_pos a
  have hp2 := nN_pos b
  rw [nN_2]
  unfold same2 at h ⊢
  simp only [ha] at h ⊢
  split
  · repeat' split
    all_goals simp only [nN_const]
    all_goals omega
  · rename_i hh; rw [if_neg hh] at h; cases h
theorem nN_pick {y : Bool} {a b : Fm} {k : Nat} (ha : nN a ≤ k) (hb : nN b ≤ k) : nN (pickF y a b) ≤ k := by unfold pickF; split <;> assumption
theorem first_lt {o v : Int} {a b : Fm} (hb : okA b) (h : (firstF (.mk o v [a, b])).2 = true) : nN (firstF (.mk o v [a, b])).1 < nN (.mk o v [a, b]) := by
  have ha : arg (.mk o v [a, b]) 0 = a := rfl
  have hbb : arg (.mk o v [a, b]) 1 = b := rfl
  have hp := nN_pos a
  have hp2 := nN_pos b
  have hn := nN_not hb
  have h9 := (one_lt (o := 9) (v := 0) hb).1
  have h10 := (one_lt (o := 10) (v := 0) hb).1
  rw [nN_1] at h9 h10
  have hc := nN_const true
  rw [nN_2]
  have key : ∀ y, nN (firstC (.mk o v [a, b]) y) ≤ nN a + nN b := by
    intro y
    unfold firstC
    simp only [ha, hbb]
    repeat' split
    all_goals first | omega | exact nN_pick (by omega) (by omega)
  unfold firstF at h ⊢
  simp only [ha] at h ⊢
  repeat' split
  all_goals first | (simp only; have := key true; have := key false; omega) | (rename_i h1 h2; rw [if_neg h1, if_neg h2] at h; cases h)
theorem second_lt {o v : Int} {a b : Fm} (hA : okA a) (h : (secondF (.mk o v [a, b])).2 = true) : nN (secondF (.mk o v [a, b])).1 < nN (.mk o v [a, b]) := by
  have ha : arg (.mk o v [a, b]) 0 = a := rfl
  have hbb : arg (.mk o v [a, b]) 1 = b := rfl
  have hp := nN_pos a
  have hp2 := nN_pos b
  have hn := nN_not hA
  have h10 := (one_lt (o := 10) (v := 0) hA).1
  rw [nN_1] at h10
  rw [nN_2]
  have key : ∀ y, nN (secondC (.mk o v [a, b]) y) ≤ nN a + nN b := by
    intro y
    unfold secondC
    simp only [ha, hbb]
    repeat' split
    all_goals first | omega | exact nN_pick (by omega) (by omega)
  unfold secondF at h ⊢
  simp only [hbb] at h ⊢
  repeat' split
  all_goals first | (simp only; have := key true; have := key false; omega) | (rename_i h1 h2; rw [if_neg h1, if_neg h2] at h; cases h)
/-- No rule is for it. -/
def irr (f : Fm) : Prop := match f.args with
  | [] => True
  | [_] => (oneF f).2 = false
  | _ => rule2 f = none
theorem rule2_some {o v : Int} {a b g : Fm} (h : okA (.mk o v [a, b])) (hr : rule2 (.mk o v [a, b]) = some g) : okA g ∧ nN g < nN (.mk o v [a, b]) := by
  have ha : okA a := okA_sub h List.mem_cons_self
  have hb : okA b := okA_sub h (List.mem_cons_of_mem _ List.mem_cons_self)
  unfold rule2 at hr
  by_cases h1 : (same2 (.mk o v [a, b])).2 = true
  · rw [if_pos h1] at hr; cases hr; exact ⟨okA_same2 h, same2_lt h1⟩
  rw [if_neg h1] at hr
  by_cases h2 : (firstF (.mk o v [a, b])).2 = true
  · rw [if_pos h2] at hr; cases hr; exact ⟨okA_first h, first_lt hb h2⟩
  rw [if_neg h2] at hr
  by_cases h3 : (secondF (.mk o v [a, b])).2 = true
  · rw [if_pos h3] at hr; cases hr; exact ⟨okA_second h, second_lt ha h3⟩
  rw [if_neg h3] at hr; cases hr
theorem mk_tot : ∀ (n : Nat) (f : Fm), okA f → nN f < n → ∃ r, mkF n f = some r ∧ okA r ∧ ((r = f ∧ irr f) ∨ nN r < nN f)
  | 0, f, _, h => by omega
  | n + 1, f, hA, hn => by
    have h3 := args012 hA
    obtain ⟨o, v, l⟩ := f
    simp only [fm_args] at h3
    rcases h3 with rfl | ⟨g, rfl⟩ | ⟨g, h, rfl⟩
    · exact ⟨_, rfl, hA, .inl ⟨rfl, trivial⟩⟩
    · have hg : okA g := okA_sub hA List.mem_cons_self
      simp only [mkF, fm_args]
      by_cases h1 : (oneF (.mk o v [g])).2 = true
      · have hl := (one_lt (o := o) (v := v) hg).2 h1
        rw [if_pos h1]
        by_cases h2 : simpleF (oneF (.mk o v [g])).1 = true
        · rw [if_pos h2]; exact ⟨_, rfl, okA_one hA, .inr hl⟩
        · rw [if_neg h2]
          obtain ⟨r, q1, q2, q3⟩ := mk_tot n _ (okA_one hA) (by omega)
          refine ⟨r, q1, q2, .inr ?_⟩
          rcases q3 with ⟨q3, _⟩ | q3
          · rw [q3]; exact hl
          · omega
      · rw [if_neg h1]
        exact ⟨_, rfl, hA, .inl ⟨rfl, Bool.eq_false_iff.2 h1⟩⟩
    · simp only [mkF, fm_args]
      cases hr : rule2 (.mk o v [g, h]) with
      | none => exact ⟨_, rfl, hA, .inl ⟨rfl, hr⟩⟩
      | some x =>
        obtain ⟨k1, k2⟩ := rule2_some hA hr
        simp only
        by_cases h2 : simpleF x = true
        · rw [if_pos h2]; exact ⟨_, rfl, k1, .inr k2⟩
        · rw [if_neg h2]
          obtain ⟨r, q1, q2, q3⟩ := mk_tot n x k1 (by omega)
          refine ⟨r, q1, q2, .inr ?_⟩
          rcases q3 with ⟨q3, _⟩ | q3
          · rw [q3]; exact k2
          · omega
def mkT (f : Fm) : Fm := (mkF (nN f + 1) f).getD f
theorem mkT_spec {f : Fm} (hA : okA f) : mkF (nN f + 1) f = some (mkT f) ∧ okA (mkT f) ∧ ((mkT f = f ∧ irr f) ∨ nN (mkT f) < nN f) := by
  obtain ⟨r, h1, h2, h3⟩ := mk_tot (nN f + 1) f hA (by omega)
  have e : mkT f = r := by unfold mkT; rw [h1]; rfl
  rw [e]; exact ⟨h1, h2, h3⟩
mutual
def allF : Fm → Fm
  | .mk o v l => mkT (.mk o v (allL l))
def allL : List Fm → List Fm
  | [] => []
  | f :: l => allF f :: allL l
end
theorem allL_map : ∀ l : List Fm, allL l = l.map allF
  | [] => rfl
  | f :: l => by rw [allL, allL_map l]; rfl
theorem okA_map {o v : Int} {l : List Fm} {φ : Fm → Fm} (h : okA (.mk o v l)) (hm : ∀ g ∈ l, okA (φ g)) : okA (.mk o v (l.map φ)) := by
  refine okA_iff.2 ⟨?_, fun g hg => ?_⟩
  · have := (okA_iff.1 h).1
    rw [okNode_eq] at this ⊢
    rw [List.length_map]; exact this
  · obtain ⟨x, hx, rfl⟩ := List.mem_map.1 hg
    exact hm x hx
theorem okA_all (f : Fm) : okA f → okA (allF f) := by
  induction f using Fm.ind with
  | h o v l ih =>
    intro h
    rw [allF, allL_map]
    exact (mkT_spec (okA_map h fun g hg => ih g hg (okA_sub h hg))).2.1
section
variable {gl : GL}
instance wmake_i (f : Fm) : Ctr (C gl) 39 [encF f] (okA f) (encF (mkT f)) := ⟨fun h => wmake_ok _ f _ h (shor_okA f h) (mkT_spec h).1⟩
theorem wall_k (o v : Int) (l : List Fm) (hA : okA (.mk o v l)) (ih : ∀ g, Ctr (C gl) 29 [encF g] (g ∈ l) (encF (allF g))) : PCall (C gl) 29 [encF (.mk o v l)] (encF (allF (.mk o v l))) := by
  have hlen := (shor_okA _ hA).1
  have hm : okA (.mk o v (l.map allF)) := okA_map hA fun g hg => okA_all g (okA_sub hA hg)
  rw [allF, allL_map]
  refine pcallX (callX_of b29 (by simp [Tryd.ntmps29]) ?_) (by simp only [AllCl, cl_encF, and_true]) (by simp only [cl_encF])
  refine W.of ?_
  rw [Tryd.ntmps29]
  simp only [toK, codeOf, Tryd.f29, go_sem, seval, reduceCtorEq]
  have H := trivial
  refine autoA ?_
  repeat' (first | (refine WK.draw (ops := #[_, _, _, _, _, _, _, _]) [dq 0 0, dq 0 1, dq 0 0, dm, dq 0 0, dm, dq 0 0, dm] mixed (by kernel_rfl) ?_; refine autoA ?_))
  try exact trivial
  refine WK.ownBox0 2 2 3 (by simp only [go_sem, seval, reduceCtorEq]; rfl) (by rfl) ?_
  simp only [go_sem, seval, reduceCtorEq]
  refine rangeA (l.length) [1, 2, 3, 12] [] (fun i => []) (fun i => (((Sto.none.add (.box [.int .i64 o, .int .i64 v, .list false (encFs l)])).add (.box [.int .i64 0, .int .i64 0, .list true []])).add (.box [.int .i64 o, .int .i64 v, .own 3 (encFs ((l.take i).map allF))])).add (.tok 3 i)) ?_ ?_
  · intro i hi
    have H := @hi
    refine autoA ?_
    repeat' (first | (refine WK.draw (ops := #[_, _, _, _, _, _, _, _]) [dq 0 0, dq 0 1, dq 0 0, dm, dq 0 0, dm, dq 0 0, dm] mixed (by kernel_rfl) ?_; refine autoA ?_))
    try exact trivial
    exact cutA
  · simp only [go_sem, seval, reduceCtorEq, List.take_length]
    have H := trivial
    refine autoA ?_
    repeat' (first | (refine WK.draw (ops := #[_, _, _, _, _, _, _, _]) [dq 0 0, dq 0 1, dq 0 0, dm, dq 0 0, dm, dq 0 0, dm] mixed (by kernel_rfl) ?_; refine autoA ?_))
    try exact trivial
    first | exact cut_none _ | exact finA
theorem wall_ok (f : Fm) : okA f → PCall (C gl) 29 [encF f] (encF (allF f)) := by
  induction f using Fm.ind with
  | h o v l ih =>
    intro h
    exact wall_k o v l h fun g => ⟨fun hg => ih g hg (okA_sub h hg)⟩
instance wall_i (f : Fm) : Ctr (C gl) 29 [encF f] (okA f) (encF (allF f)) := ⟨wall_ok f⟩
end
end Go.Sx

set_option maxRecDepth 100000
set_option maxHeartbeats 4000000
set_option linter.unusedSimpArgs false
set_option linter.unusedVariables false
set_option linter.unnecessarySimpa false
namespace Go.Sx
open Go Go.Lg Go.Proofs
theorem b31 {gl : GL} : Body (C gl).P 31 Tryd.f31 (codeOf Tryd.f31) := ⟨Tryd.func31, by kernel_rfl, by kernel_rfl⟩
theorem b40 {gl : GL} : Body (C gl).P 40 Tryd.f40 (codeOf Tryd.f40) := ⟨Tryd.func40, by kernel_rfl, by kernel_rfl⟩
theorem b41 {gl : GL} : Body (C gl).P 41 Tryd.f41 (codeOf Tryd.f41) := ⟨Tryd.func41, by kernel_rfl, by kernel_rfl⟩
theorem b42 {gl : GL} : Body (C gl).P 42 Tryd.f42 (codeOf Tryd.f42) := ⟨Tryd.func42, by kernel_rfl, by kernel_rfl⟩
def fno (g : Fm) : Fm := .mk 3 0 [g]
def fand (g h : Fm) : Fm := .mk 4 0 [g, h]
def fup (g h : Fm) : Fm := .mk 11 0 [g, h]
def untC (o v : Int) (l U : List Fm) : Fm :=
  let a := U.getD 0 fz
  let b := U.getD 1 fz
  if o = 1 then fno fz
  else if o = 5 then fno (fand (fno a) (fno b))
  else if o = 6 then fno (fand a (fno b))
  else if o = 7 then fand (fno (fand a (fno b))) (fno (fand b (fno a)))
  else if o = 9 then fup fz a
  else if o = 10 then fno (fup fz (fno a))
  else if o = 12 then fno (fup (fno a) (fno b))
  else if o = 13 then fno (fup (fno b) (fand (fno a) (fno b)))
  else if o = 3 ∨ o = 8 then .mk o 0 [a]
  else if o = 4 ∨ o = 11 then .mk o 0 [a, b]
  else .mk o v l
mutual
def untF : Fm → Fm
  | .mk o v l => untC o v l (untL l)
def untL : List Fm → List Fm
  | [] => []
  | f :: l => untF f :: untL l
end
theorem okA_fno {g : Fm} (h : okA g) : okA (fno g) := okA_un (.inl rfl) h
theorem okA_bin {k : Int} {g h : Fm} (hk : k = 4 ∨ k = 11) (h1 : okA g) (h2 : okA h) : okA (.mk k 0 [g, h]) := by
  refine okA_iff.2 ⟨?_, fun x hx => ?_⟩
  · rcases hk with rfl | rfl <;> rfl
  · simp only [List.mem_cons, List.not_mem_nil, or_false] at hx
    rcases hx with rfl | rfl <;> assumption
theorem okA_fand {g h : Fm} (h1 : okA g) (h2 : okA h) : okA (fand g h) := okA_bin (.inl rfl) h1 h2
theorem okA_fup {g h : Fm} (h1 : okA g) (h2 : okA h) : okA (fup g h) := okA_bin (.inr rfl) h1 h2
theorem okA_fz : okA fz := okA_const true
theorem okA_unt (f : Fm) : okA f → okA (untF f) := by
  induction f using Fm.ind with
  | h o v l ih =>
    intro hA
    have hok := hA _ (nodes_self _)
    rw [okNode_eq] at hok
    simp only [Bool.and_eq_true] at hok
    obtain ⟨⟨⟨ho1, ho2⟩, hal⟩, hv⟩ := hok
    replace ho1 := of_decide_eq_true ho1
    replace ho2 := of_decide_eq_true ho2
    replace hal := of_decide_eq_true hal
    have hcs : o = 0 ∨ o = 1 ∨ o = 2 ∨ o = 3 ∨ o = 4 ∨ o = 5 ∨ o = 6 ∨ o = 7 ∨ o = 8 ∨ o = 9 ∨ o = 10 ∨ o = 11 ∨ o = 12 ∨ o = 13 := by omega
    have ih' := fun g hg => ih g hg (okA_sub hA hg)
    clear hv ho1 ho2 ih
    rcases hcs with rfl | rfl | rfl | rfl | rfl | rfl | rfl | rfl | rfl | rfl | rfl | rfl | rfl | rfl
    all_goals rcases l with _ | ⟨g, _ | ⟨h, _ | ⟨x, l⟩⟩⟩
    all_goals try (exfalso; simp [arityL] at hal; done)
    all_goals try (exfalso; simp [arityL] at hal; omega)
    all_goals try have hg := ih' g (by simp)
    all_goals try have hh := ih' h (by simp)
    all_goals simp only [untF, untL, untC, List.getD_cons_zero, List.getD_cons_succ, Int.reduceEq, or_self, or_true, true_or, or_false, false_or, if_true, if_false]
    all_goals first | exact hA | exact okA_fno okA_fz | exact okA_un (.inl rfl) hg | (refine okA_iff.2 ⟨rfl, fun x hx => ?_⟩; rw [List.mem_singleton] at hx; subst hx; exact hg) | exact okA_bin (.inl rfl) hg hh | exact okA_bin (.inr rfl) hg hh | exact okA_fno (okA_fand (okA_fno hg) (okA_fno hh)) | exact okA_fno (okA_fand hg (okA_fno hh)) | exact okA_fand (okA_fno (okA_fand hg (okA_fno hh))) (okA_fno (okA_fand hh (okA_fno hg))) | exact okA_fup okA_fz hg | exact okA_fno (okA_fup okA_fz (okA_fno hg)) | exact okA_fno (okA_fup (okA_fno hg) (okA_fno hh)) | exact okA_fno (okA_fup (okA_fno hh) (okA_fand (okA_fno hg) (okA_fno hh)))
section
variable {gl : GL}
theorem u1_ok (g : Fm) : PCall (C gl) 40 [encF g] (encF (fno g)) := by
  refine pcallX (callX_of b40 (by simp [Tryd.ntmps40]) ?_) (by simp only [AllCl, cl_encF, and_true]) (by simp only [cl_encF])
  refine W.of ?_
  rw [Tryd.ntmps40]
  simp only [toK, codeOf, Tryd.f40, go_sem, seval, reduceCtorEq]
  have H := trivial
  refine autoA ?_
  try exact trivial
  first | exact cut_none _ | (refine finA (by first | (simp only [go_sem, seval, reduceCtorEq, fno, encF_fold, encF_fold0, Fm.eta, encFs_fold1, encFs_fold2, encFs_fold3]; done) | (simp only [go_sem, seval, reduceCtorEq, fno, encF_fold, encF_fold0, Fm.eta, encFs_fold1, encFs_fold2, encFs_fold3]; rfl)))
instance u1_i (g : Fm) : Ctr (C gl) 40 [encF g] True (encF (fno g)) := ⟨fun _ => u1_ok g⟩
theorem u2_ok (g h : Fm) : PCall (C gl) 41 [encF g, encF h] (encF (fand g h)) := by
  refine pcallX (callX_of b41 (by simp [Tryd.ntmps41]) ?_) (by simp only [AllCl, cl_encF, and_true]) (by simp only [cl_encF])
  refine W.of ?_
  rw [Tryd.ntmps41]
  simp only [toK, codeOf, Tryd.f41, go_sem, seval, reduceCtorEq]
  have H := trivial
  refine autoA ?_
  try exact trivial
  first | exact cut_none _ | (refine finA (by first | (simp only [go_sem, seval, reduceCtorEq, fand, encF_fold, encF_fold0, Fm.eta, encFs_fold1, encFs_fold2, encFs_fold3]; done) | (simp only [go_sem, seval, reduceCtorEq, fand, encF_fold, encF_fold0, Fm.eta, encFs_fold1, encFs_fold2, encFs_fold3]; rfl)))
instance u2_i (g h : Fm) : Ctr (C gl) 41 [encF g, encF h] True (encF (fand g h)) := ⟨fun _ => u2_ok g h⟩
theorem u3_ok (g h : Fm) : PCall (C gl) 42 [encF g, encF h] (encF (fup g h)) := by
  refine pcallX (callX_of b42 (by simp [Tryd.ntmps42]) ?_) (by simp only [AllCl, cl_encF, and_true]) (by simp only [cl_encF])
  refine W.of ?_
  rw [Tryd.ntmps42]
  simp only [toK, codeOf, Tryd.f42, go_sem, seval, reduceCtorEq]
  have H := trivial
  refine autoA ?_
  try exact trivial
  first | exact cut_none _ | (refine finA (by first | (simp only [go_sem, seval, reduceCtorEq, fup, encF_fold, encF_fold0, Fm.eta, encFs_fold1, encFs_fold2, encFs_fold3]; done) | (simp only [go_sem, seval, reduceCtorEq, fup, encF_fold, encF_fold0, Fm.eta, encFs_fold1, encFs_fold2, encFs_fold3]; rfl)))
instance u3_i (g h : Fm) : Ctr (C gl) 42 [encF g, encF h] True (encF (fup g h)) := ⟨fun _ => u3_ok g h⟩
theorem wunt_k (o v : Int) (l : List Fm) (hA : okA (.mk o v l)) (ih : ∀ g, Ctr (C gl) 31 [encF g] (g ∈ l) (encF (untF g))) : PCall (C gl) 31 [encF (.mk o v l)] (encF (untF (.mk o v l))) := by
  have hok := hA _ (nodes_self _)
  rw [okNode_eq] at hok
  simp only [Bool.and_eq_true] at hok
  obtain ⟨⟨⟨ho1, ho2⟩, hal⟩, hv⟩ := hok
  replace ho1 := of_decide_eq_true ho1
  replace ho2 := of_decide_eq_true ho2
  replace hal := of_decide_eq_true hal
  have hcs : o = 0 ∨ o = 1 ∨ o = 2 ∨ o = 3 ∨ o = 4 ∨ o = 5 ∨ o = 6 ∨ o = 7 ∨ o = 8 ∨ o = 9 ∨ o = 10 ∨ o = 11 ∨ o = 12 ∨ o = 13 := by omega
  have hs0 := shor_okA _ hA
  have hsh : ∀ g ∈ l, ShorF (untF g) := fun g hg => shor_okA _ (okA_unt g (okA_sub hA hg))
  refine pcallX (callX_of b31 (by simp [Tryd.ntmps31]) ?_) (by simp only [AllCl, cl_encF, and_true]) (by simp only [cl_encF])
  refine W.of ?_
  rw [Tryd.ntmps31]
  simp only [toK, codeOf, Tryd.f31, go_sem, seval, reduceCtorEq]
  clear hv ho1 ho2 hA
  rcases hcs with rfl | rfl | rfl | rfl | rfl | rfl | rfl | rfl | rfl | rfl | rfl | rfl | rfl | rfl
  all_goals rcases l with _ | ⟨g, _ | ⟨h, _ | ⟨x, l⟩⟩⟩
  all_goals try (exfalso; simp [arityL] at hal; done)
  all_goals try (exfalso; simp [arityL] at hal; omega)
  all_goals try have s1 := hsh g (by simp)
  all_goals try have s2 := hsh h (by simp)
  all_goals
    have H := trivial
    refine autoA ?_
    repeat' (first | (refine WK.draw (ops := #[_, _, _, _, _, _, _, _, _, _, _]) [dq 0 0, dq 0 0, dq 0 0, dq 0 0, dm, dq 0 0, dq 1 0, dm, dm, dm, dm] mixed (by kernel_rfl) ?_; refine autoA ?_) | (refine WK.draw (ops := #[_, _, _, _, _, _, _, _, _]) [dq 0 0, dq 0 0, dq 0 1, dq 0 0, dq 0 0, dm, dm, dm, dm] mixed (by kernel_rfl) ?_; refine autoA ?_) | (refine WK.draw (ops := #[_, _, _, _, _, _, _, _, _, _, _, _, _, _, _, _, _, _, _, _, _]) [dq 0 0, dq 0 0, dq 0 0, dq 0 1, dq 0 0, dq 0 0, dm, dm, dm, dq 0 0, dq 0 0, dq 3 0, dm, dq 0 0, dq 4 0, dm, dm, dm, dm, dm, dm] mixed (by kernel_rfl) ?_; refine autoA ?_) | (refine WK.draw (ops := #[_, _, _, _, _, _, _, _, _, _, _, _, _, _, _, _, _]) [dq 0 0, dq 0 0, dq 0 0, dq 0 0, dm, dq 0 0, dq 0 0, dq 1 0, dm, dq 0 0, dq 2 0, dm, dm, dm, dm, dm, dm] mixed (by kernel_rfl) ?_; refine autoA ?_))
    try exact trivial
    first | exact cut_none _ | (refine finA (by first | (simp only [go_sem, seval, reduceCtorEq, untF, untL, untC, fno, fand, fup, fz, encF_fold, encF_fold0, Fm.eta, encFs_fold1, encFs_fold2, encFs_fold3]; done) | (simp only [go_sem, seval, reduceCtorEq, untF, untL, untC, fno, fand, fup, fz, encF_fold, encF_fold0, Fm.eta, encFs_fold1, encFs_fold2, encFs_fold3]; rfl)))
theorem wunt_ok (f : Fm) : okA f → PCall (C gl) 31 [encF f] (encF (untF f)) := by
  induction f using Fm.ind with
  | h o v l ih =>
    intro h
    exact wunt_k o v l h fun g => ⟨fun hg => ih g hg (okA_sub h hg)⟩
instance wunt_i (f : Fm) : Ctr (C gl) 31 [encF f] (okA f) (encF (untF f)) := ⟨wunt_ok f⟩
end
end Go.Sx

set_option maxRecDepth 100000
set_option maxHeartbeats 4000000
set_option linter.unusedSimpArgs false
set_option linter.unusedVariables false
set_option linter.unnecessarySimpa false
namespace Go.Sx
open Go Go.Lg Go.Proofs
theorem b30 {gl : GL} : Body (C gl).P 30 Tryd.f30 (codeOf Tryd.f30) := ⟨Tryd.func30, by kernel_rfl, by kernel_rfl⟩
theorem b14 {gl : GL} : Body (C gl).P 14 Tryd.f14 (codeOf Tryd.f14) := ⟨Tryd.func14, by kernel_rfl, by kernel_rfl⟩
def szC (o n0 n1 : Int) : Int :=
  if o = 1 then 2
  else if o = 5 ∨ o = 12 then 4 + n0 + n1
  else if o = 6 then 3 + n0 + n1
  else if o = 7 then 7 + 2 * n0 + 2 * n1
  else if o = 9 then 2 + n0
  else if o = 10 then 4 + n0
  else if o = 13 then 6 + n0 + 2 * n1
  else 1 + n0 + n1
mutual
def szU : Fm → Int
  | .mk o _ l => if 61 < szC o ((szL l).getD 0 0) ((szL l).getD 1 0) then 61 else szC o ((szL l).getD 0 0) ((szL l).getD 1 0)
def szL : List Fm → List Int
  | [] => []
  | f :: l => szU f :: szL l
end
theorem arrC_eq (q : Nat → Int) (i : Nat) : arrC q i = [.int .i64 (if 0 < i then q 0 else 0), .int .i64 (if 1 < i then q 1 else 0)] := (rfl)
/-- The size is that of the formula, capped. -/
theorem szU_nN (f : Fm) : okA f → szU f = min (nN (untF f) : Int) 61 ∧ (∀ g ∈ f.args, nN (untF g) ≤ nN (untF f)) := by
  induction f using Fm.ind with
  | h o v l ih =>
    intro hA
    have hok := hA _ (nodes_self _)
    rw [okNode_eq] at hok
    simp only [Bool.and_eq_true] at hok
    obtain ⟨⟨⟨ho1, ho2⟩, hal⟩, hv⟩ := hok
    replace ho1 := of_decide_eq_true ho1
    replace ho2 := of_decide_eq_true ho2
    replace hal := of_decide_eq_true hal
    have hcs : o = 0 ∨ o = 1 ∨ o = 2 ∨ o = 3 ∨ o = 4 ∨ o = 5 ∨ o = 6 ∨ o = 7 ∨ o = 8 ∨ o = 9 ∨ o = 10 ∨ o = 11 ∨ o = 12 ∨ o = 13 := by omega
    have ih' := fun g hg => (ih g hg (okA_sub hA hg)).1
    have pp := nN_pos
    clear hv ho1 ho2 ih hA
    rcases hcs with rfl | rfl | rfl | rfl | rfl | rfl | rfl | rfl | rfl | rfl | rfl | rfl | rfl | rfl
    all_goals rcases l with _ | ⟨g, _ | ⟨h, _ | ⟨x, l⟩⟩⟩
    all_goals try (exfalso; simp [arityL] at hal; done)
    all_goals try (exfalso; simp [arityL] at hal; omega)
    all_goals try have hg := ih' g (by simp)
    all_goals try have pg := pp (untF g)
    all_goals try have hh := ih' h (by simp)
    all_goals try have ph := pp (untF h)
    all_goals simp only [szU, szL, szC, untF, untL, untC, fno, fand, fup, fz, nN_0, nN_1, nN_2, List.getD_cons_zero, List.getD_cons_succ, List.getD_nil, Int.reduceEq, or_self, or_true, true_or, or_false, false_or, if_true, if_false, fm_args, List.mem_cons, List.not_mem_nil, forall_eq_or_imp, forall_eq, false_implies, implies_true, and_true]
    all_goals (try simp only [c61_min])
    all_goals first | omega | (refine ⟨by omega, ?_⟩; first | omega | (intro x hx; exact hx.elim) | (refine ⟨by omega, by omega⟩) | simp_all)
theorem szU_bd (f : Fm) (h : okA f) : 0 ≤ szU f ∧ szU f ≤ 61 := by
  have := (szU_nN f h).1
  omega
section
variable {gl : GL}
theorem wsize_k (o v : Int) (l : List Fm) (hA : okA (.mk o v l)) (ih : ∀ g, Ctr (C gl) 30 [encF g] (g ∈ l) (.int .i64 (szU g))) : PCall (C gl) 30 [encF (.mk o v l)] (.int .i64 (szU (.mk o v l))) := by
  have hok := hA _ (nodes_self _)
  rw [okNode_eq] at hok
  simp only [Bool.and_eq_true] at hok
  obtain ⟨⟨⟨ho1, ho2⟩, hal⟩, hv⟩ := hok
  replace ho1 := of_decide_eq_true ho1
  replace ho2 := of_decide_eq_true ho2
  replace hal := of_decide_eq_true hal
  have hcs : o = 0 ∨ o = 1 ∨ o = 2 ∨ o = 3 ∨ o = 4 ∨ o = 5 ∨ o = 6 ∨ o = 7 ∨ o = 8 ∨ o = 9 ∨ o = 10 ∨ o = 11 ∨ o = 12 ∨ o = 13 := by omega
  have hbd := fun g hg => szU_bd g (okA_sub hA (g := g) hg)
  have hl2 : l.length ≤ 2 := by
    rcases arL_nat o.toNat (by omega) with h | h | h <;> (rw [h] at hal; omega)
  refine pcallX (callX_of b30 (by simp [Tryd.ntmps30]) ?_) (by simp only [AllCl, cl_encF, and_true]) (.int _ _)
  refine W.of ?_
  rw [Tryd.ntmps30]
  simp only [toK, codeOf, Tryd.f30, go_sem, seval, reduceCtorEq]
  have H := trivial
  refine autoA ?_
  try exact trivial
  have H := @arrC_eq
  refine rangeA (l.length) [1, 3, 8] [] (fun i => []) (fun i => ((Sto.none.add (.box [.int .i64 o, .int .i64 v, .list false (encFs l)])).add (.box (arrC (fun j => (l.map szU).getD j 0) i)))) ?_ ?_
  · intro i hi
    have c1 := arrC_wr (fun j => (l.map szU).getD j 0) i (by omega)
    have n1 : ∀ q i, (arrC q i).length = 2 := fun _ _ => rfl
    have h2 : (i : Int) < 2 := by omega
    have cg : (l.map szU).getD i 0 = szU l[i] := by rw [List.getD_eq_getElem?_getD, List.getElem?_map, List.getElem?_eq_getElem hi]; rfl
    have H := And.intro @hi (And.intro @n1 (And.intro @h2 @belL_arrC))
    refine autoA ?_
    try exact trivial
    simp only [wr, List.length_cons, List.length_nil, Nat.zero_add] at c1
    rw [cg] at c1
    rw [c1]
    exact cutA
  · clear hA hv ho1 ho2
    rcases hcs with rfl | rfl | rfl | rfl | rfl | rfl | rfl | rfl | rfl | rfl | rfl | rfl | rfl | rfl
    all_goals rcases l with _ | ⟨g, _ | ⟨h, _ | ⟨x, l⟩⟩⟩
    all_goals try (exfalso; simp [arityL] at hal; done)
    all_goals try (exfalso; simp [arityL] at hal; omega)
    all_goals try have bg := hbd g (by simp)
    all_goals try have bh := hbd h (by simp)
    all_goals
      simp only [go_sem, seval, reduceCtorEq, List.take_length, arrC_eq, List.length_cons, List.length_nil, List.map_cons, List.map_nil, List.getD_nil]
      have H := trivial
      refine autoW ?_
      try exact trivial
    all_goals refine ⟨?_, cut_none _⟩
    all_goals simp [szU, szL, szC]
theorem wsize_ok (f : Fm) : okA f → PCall (C gl) 30 [encF f] (.int .i64 (szU f)) := by
  induction f using Fm.ind with
  | h o v l ih =>
    intro h
    exact wsize_k o v l h fun g => ⟨fun hg => ih g hg (okA_sub h hg)⟩
instance wsize_i (f : Fm) : Ctr (C gl) 30 [encF f] (okA f) (.int .i64 (szU f)) := ⟨wsize_ok f⟩
/-- What Until answers. -/
def untS (f : Fm) : Fm × Int := if validF f 6 = true then (if nN (untF f) > 60 then (fz, 3) else (untF f, 0)) else (fz, 1)
theorem wUntil_ok (har : gl.at' 0 = arityA) (f : Fm) (hs : Shrt f) : PCall (C gl) 14 [encF f] (.tup [encF (untS f).1, .int .i64 (untS f).2]) := by
  refine pcallX (callX_of b14 (by simp [Tryd.ntmps14]) ?_) (by simp only [AllCl, cl_encF, and_true]) (by simp only [cl_tup, AllCl, cl_encF, cl_int, and_true])
  have hva : Ctr (C gl) 20 [encF f, .int .i64 6] True (.bool (validF f 6)) := ⟨fun _ => valid_ok har f hs 6⟩
  refine W.of ?_
  rw [Tryd.ntmps14]
  simp only [toK, codeOf, Tryd.f14, go_sem, seval, reduceCtorEq]
  cases hv : validF f 6 with
  | false =>
    have H := @hv
    refine autoA ?_
    try exact trivial
    first | exact cut_none _ | (refine finA (by first | (simp only [go_sem, seval, reduceCtorEq, untS, hv, fz, encF_fold, encF_fold0, Fm.eta, encFs_fold1, encFs_fold2, encFs_fold3]; done) | (simp only [go_sem, seval, reduceCtorEq, untS, hv, fz, encF_fold, encF_fold0, Fm.eta, encFs_fold1, encFs_fold2, encFs_fold3]; rfl)))
  | true =>
    have hA := (valid_both hv).2
    have hsz := (szU_nN f hA).1
    cases h6 : decide (szU f > 60) with
    | true =>
      have h7 : (nN (untF f) > 60) = True := by have := of_decide_eq_true h6; simp; omega
      have H := And.intro @hv @h6
      refine autoA ?_
      try exact trivial
      first | exact cut_none _ | (refine finA (by first | (simp only [go_sem, seval, reduceCtorEq, untS, hv, h7, fz, encF_fold, encF_fold0, Fm.eta, encFs_fold1, encFs_fold2, encFs_fold3]; done) | (simp only [go_sem, seval, reduceCtorEq, untS, hv, h7, fz, encF_fold, encF_fold0, Fm.eta, encFs_fold1, encFs_fold2, encFs_fold3]; rfl)))
    | false =>
      have h7 : (nN (untF f) > 60) = False := by have := of_decide_eq_false h6; simp; omega
      have H := And.intro @hv @h6
      refine autoA ?_
      try exact trivial
      first | exact cut_none _ | (refine finA (by first | (simp only [go_sem, seval, reduceCtorEq, untS, hv, h7, encF_fold, encF_fold0, Fm.eta, encFs_fold1, encFs_fold2, encFs_fold3]; done) | (simp only [go_sem, seval, reduceCtorEq, untS, hv, h7, encF_fold, encF_fold0, Fm.eta, encFs_fold1, encFs_fold2, encFs_fold3]; rfl)))
end
end Go.Sx
