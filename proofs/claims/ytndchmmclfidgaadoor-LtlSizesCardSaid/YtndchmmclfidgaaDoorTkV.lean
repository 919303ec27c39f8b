import Derived.Test.YtndchmmclfidgaaDoorBtA
import Derived.Test.YtndchmmclfidgaaDoorTrD
import Derived.Test.YtndchmmclfidgaaDoorLgAv
set_option maxRecDepth 100000
set_option maxHeartbeats 4000000
set_option linter.unusedSimpArgs false
set_option linter.unusedVariables false
set_option linter.unnecessarySimpa false
namespace Go.Sx
open Go Go.Lg Go.Proofs
theorem b114 {gl : GL} : Body (C gl).P 114 Tryd.f114 (codeOf Tryd.f114) := ⟨Tryd.func114, by kernel_rfl, by kernel_rfl⟩
theorem b49 {gl : GL} : Body (C gl).P 49 Tryd.f49 (codeOf Tryd.f49) := ⟨Tryd.func49, by kernel_rfl, by kernel_rfl⟩
theorem b50 {gl : GL} : Body (C gl).P 50 Tryd.f50 (codeOf Tryd.f50) := ⟨Tryd.func50, by kernel_rfl, by kernel_rfl⟩
mutual
def depN : Fm → Nat
  | .mk o _ l => depL l + (if isTemporal o = true then 1 else 0)
def depL : List Fm → Nat
  | [] => 0
  | f :: l => max (depN f) (depL l)
end
mutual
def tmpN : Fm → Nat
  | .mk o _ l => tmpL l + (if isTemporal o = true then 1 else 0)
def tmpL : List Fm → Nat
  | [] => 0
  | f :: l => tmpN f + tmpL l
end
theorem depL_app : ∀ a b : List Fm, depL (a ++ b) = max (depL a) (depL b)
  | [], b => by simp [depL]
  | f :: a, b => by rw [List.cons_append, depL, depL, depL_app a b, Nat.max_assoc]
theorem tmpL_app : ∀ a b : List Fm, tmpL (a ++ b) = tmpL a + tmpL b
  | [], b => by simp [tmpL]
  | f :: a, b => by rw [List.cons_append, tmpL, tmpL, tmpL_app a b]; omega
theorem depL_take {l : List Fm} {i : Nat} (h : i < l.length) : depL (l.take (i + 1)) = max (depL (l.take i)) (depN l[i]) := by
  rw [← List.take_append_getElem h, depL_app]; simp [depL]
theorem tmpL_take {l : List Fm} {i : Nat} (h : i < l.length) : tmpL (l.take (i + 1)) = tmpL (l.take i) + tmpN l[i] := by
  rw [← List.take_append_getElem h, tmpL_app]; simp [tmpL]
theorem depL_tmp : ∀ l : List Fm, (∀ g ∈ l, depN g ≤ tmpN g) → depL l ≤ tmpL l
  | [], _ => Nat.le_refl _
  | f :: l, h => by
    have h1 := h f (by simp)
    have h2 := depL_tmp l fun g hg => h g (List.mem_cons_of_mem _ hg)
    rw [depL, tmpL]; omega
theorem dep_tmp (f : Fm) : depN f ≤ tmpN f := by
  induction f using Fm.ind with
  | h o v l ih => rw [depN, tmpN]; have := depL_tmp l ih; omega
theorem tmpL_nN : ∀ l : List Fm, (∀ g ∈ l, tmpN g ≤ nN g) → tmpL l ≤ (nodesL l).length
  | [], _ => Nat.zero_le _
  | f :: l, h => by
    have h1 := h f (by simp)
    have h2 := tmpL_nN l fun g hg => h g (List.mem_cons_of_mem _ hg)
    rw [tmpL, nodesL, List.length_append]; unfold nN at h1; omega
theorem tmp_nN (f : Fm) : tmpN f ≤ nN f := by
  induction f using Fm.ind with
  | h o v l ih =>
    have := tmpL_nN l ih
    rw [tmpN]; unfold nN; rw [nodesF, List.length_cons]; split <;> omega
def cntT (l : List Fm) : Nat := l.countP fun x => isTemporal x.op
theorem cntT_nodes (f : Fm) : cntT (nodesF f) = tmpN f := by
  induction f using Fm.ind with
  | h o v l ih =>
    have hl : ∀ l' : List Fm, (∀ g ∈ l', cntT (nodesF g) = tmpN g) → cntT (nodesL l') = tmpL l' := by
      intro l'
      induction l' with
      | nil => intro _; rfl
      | cons g l' ih2 =>
        intro h
        have h1 := h g (by simp)
        have h2 := ih2 fun x hx => h x (List.mem_cons_of_mem _ hx)
        unfold cntT at h1 h2 ⊢
        rw [nodesL, List.countP_append, h1, h2, tmpL]
    have h := hl l ih
    unfold cntT at h ⊢
    rw [nodesF, List.countP_cons, h, tmpN]
    rfl
theorem fold_cnt : ∀ (l : List Fm) (a b : Nat), l.foldl (fun (t : Nat × Nat) x => (t.1 + 1, t.2 + if isTemporal x.op = true then 1 else 0)) (a, b) = (a + l.length, b + cntT l)
  | [], a, b => by simp [cntT]
  | x :: l, a, b => by
    have h := fold_cnt l (a + 1) (b + if isTemporal x.op = true then 1 else 0)
    rw [List.foldl_cons, h]
    unfold cntT
    rw [List.countP_cons, List.length_cons]
    refine Prod.ext ?_ ?_
    · show a + 1 + l.length = a + (l.length + 1); omega
    · show b + (if isTemporal x.op = true then 1 else 0) + _ = b + (_ + if isTemporal x.op = true then 1 else 0); omega
theorem cntT_le (l : List Fm) : cntT l ≤ l.length := List.countP_le_length
/-- What Size answers. -/
def sizS (f : Fm) : Int × Int × Int × Int := if validF f 6 = true then (nN f, tmpN f, depN f, 0) else (0, 0, 0, 1)
section
variable {gl : GL}
instance tpl_i (o : Int) : Ctr (C gl) 112 [.int .i64 o] True (.bool (isTemporal o)) := ⟨fun _ => temporal o⟩
instance tpr_i (o : Int) : Ctr (C gl) 141 [.int .i64 o] True (.bool (isTemporal o)) := ⟨fun _ => temporalR_ok o⟩
theorem deepF_dep (f : Fm) : nN f ≤ 1000 → deepF f = depN f := by
  induction f using Fm.ind with
  | h o v l ih =>
    intro hn
    have hd := dep_tmp (.mk o v l)
    have ht := tmp_nN (.mk o v l)
    have hl : ∀ (l' : List Fm) (d : Nat), (∀ g ∈ l', g ∈ l) → deepL l' (d : Int) = ((max d (depL l') : Nat) : Int) := by
      intro l'
      induction l' with
      | nil => intro d _; simp [deepL, depL]
      | cons g l' ih2 =>
        intro d h
        have hg := ih g (h g (by simp)) (by have := nN_sub (h g (by simp)) (o := o) (v := v); omega)
        have e : deepStep (d : Int) (deepF g) = ((max d (depN g) : Nat) : Int) := by
          rw [hg]; unfold deepStep; split <;> omega
        rw [deepL, e, ih2 _ fun x hx => h x (List.mem_cons_of_mem _ hx), depL, Nat.max_assoc]
    have h0 := hl l 0 fun g hg => hg
    rw [Nat.zero_max] at h0
    have h0' : deepL l 0 = (depL l : Int) := h0
    rw [depN] at hd ⊢
    rw [deepF, h0']
    by_cases h : isTemporal o = true
    · rw [if_pos h] at hd ⊢
      rw [if_pos h, wrap64 (by omega) (by omega)]; omega
    · rw [if_neg h, if_neg h]; omega
instance deep_i (f : Fm) : Ctr (C gl) 113 [encF f] (Shrt f ∧ nN f ≤ 1000) (.int .i64 (depN f)) := ⟨fun h => by
  have := deep_ok (gl := gl) f h.1
  rw [deepF_dep f h.2] at this
  exact this⟩
theorem temp_k (o v : Int) (l : List Fm) (hA : okA (.mk o v l)) (hn : nN (.mk o v l) ≤ 1000) (ih : ∀ g, Ctr (C gl) 114 [encF g] (g ∈ l) (.tup [.int .i64 (tmpN g), .int .i64 (depN g)])) : PCall (C gl) 114 [encF (.mk o v l)] (.tup [.int .i64 (tmpN (.mk o v l)), .int .i64 (depN (.mk o v l))]) := by
  have hlen := (shor_okA _ hA).1
  have ht := tmp_nN (.mk o v l)
  have hd := dep_tmp (.mk o v l)
  have hle : ∀ i, tmpL (l.take i) ≤ tmpL l := fun i => by
    have := congrArg tmpL (List.take_append_drop i l)
    rw [tmpL_app] at this; omega
  have hdl := depL_tmp l fun g _ => dep_tmp g
  rw [tmpN] at ht
  refine pcallX (callX_of b114 (by simp [Tryd.ntmps114]) ?_) (by simp only [AllCl, cl_encF, and_true]) (by simp only [cl_tup, AllCl, cl_int, and_true])
  refine W.of ?_
  rw [Tryd.ntmps114]
  simp only [toK, codeOf, Tryd.f114, go_sem, seval, reduceCtorEq]
  have d0 : depL [] = 0 := rfl
  have t0 : tmpL [] = 0 := rfl
  have H := And.intro @d0 @t0
  refine autoA ?_
  try exact trivial
  refine rangeA (l.length) [1, 9] [2, 3] (fun i => [.int .i64 (tmpL (l.take i) : Int), .int .i64 (depL (l.take i) : Int)]) (fun i => (Sto.none.add (.box [.int .i64 o, .int .i64 v, .list false (encFs l)]))) ?_ ?_
  · intro i hi
    have e1 := tmpL_take hi
    have e2 := depL_take hi
    have h1 := hle (i + 1)
    have e3 : ((tmpL (l.take i) : Int) + (tmpN l[i] : Int)) = (tmpL (l.take (i + 1)) : Int) := by omega
    have H := And.intro @hi @e3
    refine autoW ?_
    try exact trivial
    exact cutA
  · rw [List.take_length]
    cases h : isTemporal o with
    | true =>
      have H := @h
      refine autoW ?_
      try exact trivial
      refine ⟨?_, cut_none _⟩
      rw [show (tmpN (.mk o v l) : Int) = tmpL l + 1 by rw [tmpN, if_pos h]; rfl, show (depN (.mk o v l) : Int) = depL l + 1 by rw [depN, if_pos h]; rfl]
      exact .refl _
    | false =>
      have H := @h
      refine autoA ?_
      try exact trivial
      refine ⟨?_, cut_none _⟩
      rw [show (tmpN (.mk o v l) : Int) = tmpL l by rw [tmpN, if_neg (by rw [h]; decide)]; rfl, show (depN (.mk o v l) : Int) = depL l by rw [depN, if_neg (by rw [h]; decide)]; rfl]
      exact .refl _
theorem temp_ok (f : Fm) : okA f → nN f ≤ 1000 → PCall (C gl) 114 [encF f] (.tup [.int .i64 (tmpN f), .int .i64 (depN f)]) := by
  induction f using Fm.ind with
  | h o v l ih =>
    intro h hn
    exact temp_k o v l h hn fun g => ⟨fun hg => ih g hg (okA_sub h hg) (by have := nN_sub hg (o := o) (v := v); omega)⟩
instance temp_i (f : Fm) : Ctr (C gl) 114 [encF f] (okA f ∧ nN f ≤ 1000) (.tup [.int .i64 (tmpN f), .int .i64 (depN f)]) := ⟨fun h => temp_ok f h.1 h.2⟩
theorem rSize_ok (f : Fm) (hs : Shrt f) : PCall (C gl) 50 [encF f] (.tup [.int .i64 (sizS f).1, .int .i64 (sizS f).2.1, .int .i64 (sizS f).2.2.1, .int .i64 (sizS f).2.2.2]) := by
  refine pcallX (callX_of b50 (by simp [Tryd.ntmps50]) ?_) (by simp only [AllCl, cl_encF, and_true]) (by simp only [cl_tup, AllCl, cl_int, and_true])
  refine W.of ?_
  rw [Tryd.ntmps50]
  simp only [toK, codeOf, Tryd.f50, go_sem, seval, reduceCtorEq]
  cases hv : validF f 6 with
  | false =>
    rw [show sizS f = (0, 0, 0, 1) by unfold sizS; rw [hv]; rfl]
    have H := And.intro @hv @hs
    refine autoA ?_
    try exact trivial
    exact cut_none _
  | true =>
    have hA := (valid_both hv).2
    have hn : nN f ≤ 60 := ((validF_iff f 6).1 hv).2.2.1
    have hn2 : nN f ≤ 1000 := by omega
    have hno : Ctr (C gl) 64 [encF f, .int .i64 60] True (.int .i64 (nN f : Int)) := ⟨fun _ => by
      have := nodesR_ok (gl := gl) f hs 60 (by omega) (by omega)
      rw [nodesR_min f 60 (by omega)] at this
      unfold nN at hn ⊢
      rw [show min ((nodesF f).length : Int) (60 + 1) = ((nodesF f).length : Int) by omega] at this
      exact this⟩
    rw [show sizS f = ((nN f : Int), (tmpN f : Int), (depN f : Int), (0 : Int)) by unfold sizS; rw [hv]; rfl]
    have H := And.intro @hv (And.intro @hs (And.intro @hA @hn2))
    refine autoA ?_
    try exact trivial
    exact cut_none _
theorem wSize_ok (har : gl.at' 0 = arityA) (f : Fm) (hs : Shrt f) : PCall (C gl) 49 [encF f] (.tup [.int .i64 (sizS f).1, .int .i64 (sizS f).2.1, .int .i64 (sizS f).2.2.1, .int .i64 (sizS f).2.2.2]) := by
  refine pcallX (callX_of b49 (by simp [Tryd.ntmps49]) ?_) (by simp only [AllCl, cl_encF, and_true]) (by simp only [cl_tup, AllCl, cl_int, and_true])
  have hva := valid6_i (gl := gl) har f
  refine W.of ?_
  rw [Tryd.ntmps49]
  simp only [toK, codeOf, Tryd.f49, go_sem, seval, reduceCtorEq]
  cases hv : validF f 6 with
  | false =>
    rw [show sizS f = (0, 0, 0, 1) by unfold sizS; rw [hv]; rfl]
    have H := And.intro @hv @hs
    refine autoA ?_
    repeat' (first | (refine WK.draw (ops := #[_, _, _, _, _, _, _, _]) [dq 0 1, dq 0 2, dq 0 0, dm, dm, dm, dq 0 0, dq 0 0] mixed (by kernel_rfl) ?_; refine autoA ?_))
    try exact trivial
    exact cut_none _
  | true =>
    have hA := (valid_both hv).2
    have hn : nN f ≤ 60 := ((validF_iff f 6).1 hv).2.2.1
    have hn2 : nN f ≤ 1000 := by omega
    have htm := tmp_nN f
    rw [show sizS f = ((nN f : Int), (tmpN f : Int), (depN f : Int), (0 : Int)) by unfold sizS; rw [hv]; rfl]
    have H := And.intro @hv @hs
    refine autoA ?_
    repeat' (first | (refine WK.draw (ops := #[_, _, _, _, _, _, _, _]) [dq 0 1, dq 0 2, dq 0 0, dm, dm, dm, dq 0 0, dq 0 0] mixed (by kernel_rfl) ?_; refine autoA ?_))
    try exact trivial
    refine WK.forNodesW 4 [1, 2, 3, 4, 5] f hs 3 (fun t : Nat × Nat => ((((Sto.none.add (.box [.int .i64 f.op, .int .i64 f.var, .list false (encFs f.args)])).add (.box [.int .i64 (t.1 : Int)])).add (.box [.int .i64 (t.2 : Int)])).add (.box [.int .i64 f.op, .int .i64 f.var, .list false (encFs f.args)]))) (fun t x => (t.1 + 1, t.2 + if isTemporal x.op = true then 1 else 0)) (fun _ => true) (0, 0) ?_ ?_ (fun t σ1 _ h => by cases h)
    · rintro L t x σ' ⟨p, q, hp, ht⟩ _ hn' hag hl
      have hlt : t.1 < 60 ∧ t.2 < 60 := by
        rw [hand_all, fold_cnt] at ht
        have h1 := congrArg List.length hp
        rw [List.length_append, List.length_cons] at h1
        have h2 := cntT_le p
        unfold nN at hn
        rw [ht]
        exact ⟨by show 0 + p.length < 60; omega, by show 0 + cntT p < 60; omega⟩
      obtain ⟨n, m⟩ := t
      simp only at hlt
      obtain ⟨hl1, hl2⟩ := hlt
      have nz_0 : (0 = σ'.next) = False := by simp; omega
      have nx_0 : ∀ j, (0 = σ'.next + j) = False := fun j => by simp; omega
      have nz_1 : (1 = σ'.next) = False := by simp; omega
      have nx_1 : ∀ j, (1 = σ'.next + j) = False := fun j => by simp; omega
      have nz_2 : (2 = σ'.next) = False := by simp; omega
      have nx_2 : ∀ j, (2 = σ'.next + j) = False := fun j => by simp; omega
      have nz_3 : (3 = σ'.next) = False := by simp; omega
      have nx_3 : ∀ j, (3 = σ'.next + j) = False := fun j => by simp; omega
      have nz_4 : (4 = σ'.next) = False := by simp; omega
      have nx_4 : ∀ j, (4 = σ'.next + j) = False := fun j => by simp; omega
      simp only [toK, bindP, go_sem, seval, reduceCtorEq]
      cases hx : isTemporal x.op with
      | true =>
        have H := And.intro @nz_0 (And.intro @nx_0 (And.intro @nz_1 (And.intro @nx_1 (And.intro @nz_2 (And.intro @nx_2 (And.intro @nz_3 (And.intro @nx_3 (And.intro @nz_4 (And.intro @nx_4 (And.intro @hag (And.intro @hl @hx)))))))))))
        refine autoW ?_
        repeat' (first | (refine WK.draw (ops := #[_, _, _, _, _, _, _, _]) [dq 0 1, dq 0 2, dq 0 0, dm, dm, dm, dq 0 0, dq 0 0] mixed (by kernel_rfl) ?_; refine autoW ?_))
        try exact trivial
        exact bodyA
      | false =>
        have H := And.intro @nz_0 (And.intro @nx_0 (And.intro @nz_1 (And.intro @nx_1 (And.intro @nz_2 (And.intro @nx_2 (And.intro @nz_3 (And.intro @nx_3 (And.intro @nz_4 (And.intro @nx_4 (And.intro @hag (And.intro @hl @hx)))))))))))
        refine autoW ?_
        repeat' (first | (refine WK.draw (ops := #[_, _, _, _, _, _, _, _]) [dq 0 1, dq 0 2, dq 0 0, dm, dm, dm, dq 0 0, dq 0 0] mixed (by kernel_rfl) ?_; refine autoW ?_))
        try exact trivial
        exact bodyA
    · rintro t rfl _
      rw [hand_all, fold_cnt, cntT_nodes]
      simp only [go_sem, seval, reduceCtorEq]
      have H := And.intro @hs @hn2
      refine autoA ?_
      repeat' (first | (refine WK.draw (ops := #[_, _, _, _, _, _, _, _]) [dq 0 1, dq 0 2, dq 0 0, dm, dm, dm, dq 0 0, dq 0 0] mixed (by kernel_rfl) ?_; refine autoA ?_))
      try exact trivial
      exact ⟨.refl _, cut_none _⟩
end
end Go.Sx

set_option maxRecDepth 100000
set_option maxHeartbeats 4000000
set_option linter.unusedSimpArgs false
set_option linter.unusedVariables false
set_option linter.unnecessarySimpa false
namespace Go.Sx
open Go Go.Lg Go.Proofs
theorem b51 {gl : GL} : Body (C gl).P 51 Tryd.f51 (codeOf Tryd.f51) := ⟨Tryd.func51, by kernel_rfl, by kernel_rfl⟩
theorem b52 {gl : GL} : Body (C gl).P 52 Tryd.f52 (codeOf Tryd.f52) := ⟨Tryd.func52, by kernel_rfl, by kernel_rfl⟩
/-! ## The propositions -/
def bstep (b : BitVec 64) (x : Fm) : BitVec 64 := b ||| bitV x.op x.var
theorem bitsL_or : ∀ (l : List Fm) (a b : BitVec 64), bitsL (a ||| b) l = a ||| bitsL b l
  | [], a, b => by rw [bitsL, bitsL]
  | f :: l, a, b => by rw [bitsL, bitsL, BitVec.or_assoc, bitsL_or]
theorem fold_bits (f : Fm) : ∀ a, (nodesF f).foldl bstep a = a ||| bitsB f := by
  induction f using Fm.ind with
  | h o v l ih =>
    intro a
    have hl : ∀ l' : List Fm, (∀ g ∈ l', g ∈ l) → ∀ a, (nodesL l').foldl bstep a = bitsL a l' := by
      intro l'
      induction l' with
      | nil => intro _ a; rw [nodesL, bitsL]; rfl
      | cons g l' ih2 =>
        intro h a
        rw [nodesL, List.foldl_append, ih g (h g (by simp)), ih2 (fun x hx => h x (List.mem_cons_of_mem _ hx)), bitsL]
    rw [nodesF, List.foldl_cons, hl l fun g hg => hg, bitsB]
    exact bitsL_or l a _
theorem bitV_shl {x : Fm} (hx : okNode 6 x = true) (h2 : (x.op == 2) = true) : shlI .i64 1 x.var = (bitV x.op x.var).toInt ∧ 0 ≤ x.var := by
  obtain ⟨o, v, l⟩ := x
  have h2 := eq_of_beq h2
  simp only [fm_op, fm_var] at h2 ⊢
  subst h2
  rw [okNode_eq] at hx
  simp only [Bool.and_eq_true, if_true, decide_eq_true_eq] at hx
  obtain ⟨_, hv1, hv2⟩ := hx
  have hc : v = 0 ∨ v = 1 ∨ v = 2 ∨ v = 3 ∨ v = 4 ∨ v = 5 := by omega
  rcases hc with rfl | rfl | rfl | rfl | rfl | rfl <;> exact ⟨by decide, by omega⟩
/-- What Props answers. -/
def proS (f : Fm) : Int × Int := if validF f 6 = true then ((bitsB f).toInt, 0) else (0, 1)
section
variable {gl : GL}
theorem rProps_ok (f : Fm) (hs : Shrt f) : PCall (C gl) 52 [encF f] (.tup [.int .i64 (proS f).1, .int .i64 (proS f).2]) := by
  refine pcallX (callX_of b52 (by simp [Tryd.ntmps52]) ?_) (by simp only [AllCl, cl_encF, and_true]) (by simp only [cl_tup, AllCl, cl_int, and_true])
  refine W.of ?_
  rw [Tryd.ntmps52]
  simp only [toK, codeOf, Tryd.f52, go_sem, seval, reduceCtorEq]
  cases hv : validF f 6 with
  | false =>
    rw [show proS f = (0, 1) by unfold proS; rw [hv]; rfl]
    have H := And.intro @hv @hs
    refine autoA ?_
    try exact trivial
    exact cut_none _
  | true =>
    have hA := (valid_both hv).2
    rw [show proS f = ((bitsB f).toInt, (0 : Int)) by unfold proS; rw [hv]; rfl]
    have H := And.intro @hv (And.intro @hs @hA)
    refine autoA ?_
    try exact trivial
    exact cut_none _
theorem wProps_ok (har : gl.at' 0 = arityA) (f : Fm) (hs : Shrt f) : PCall (C gl) 51 [encF f] (.tup [.int .i64 (proS f).1, .int .i64 (proS f).2]) := by
  refine pcallX (callX_of b51 (by simp [Tryd.ntmps51]) ?_) (by simp only [AllCl, cl_encF, and_true]) (by simp only [cl_tup, AllCl, cl_int, and_true])
  have hva := valid6_i (gl := gl) har f
  refine W.of ?_
  rw [Tryd.ntmps51]
  simp only [toK, codeOf, Tryd.f51, go_sem, seval, reduceCtorEq]
  cases hv : validF f 6 with
  | false =>
    rw [show proS f = (0, 1) by unfold proS; rw [hv]; rfl]
    have H := And.intro @hv @hs
    refine autoA ?_
    repeat' (first | (refine WK.draw (ops := #[_, _, _, _, _, _]) [dq 0 0, dq 0 0, dq 0 0, dq 0 0, dq 0 0, dm] mixed (by kernel_rfl) ?_; refine autoA ?_))
    try exact trivial
    exact cut_none _
  | true =>
    have hA := (valid_both hv).2
    rw [show proS f = ((bitsB f).toInt, (0 : Int)) by unfold proS; rw [hv]; rfl]
    have H := And.intro @hv @hs
    refine autoA ?_
    repeat' (first | (refine WK.draw (ops := #[_, _, _, _, _, _]) [dq 0 0, dq 0 0, dq 0 0, dq 0 0, dq 0 0, dm] mixed (by kernel_rfl) ?_; refine autoA ?_))
    try exact trivial
    have z0 : (0#64).toInt = 0 := by decide
    have H := @z0
    refine WK.forNodesW 3 [1, 2, 3, 4] f hs 2 (fun t : BitVec 64 => (((Sto.none.add (.box [.int .i64 f.op, .int .i64 f.var, .list false (encFs f.args)])).add (.box [.int .i64 t.toInt])).add (.box [.int .i64 f.op, .int .i64 f.var, .list false (encFs f.args)]))) bstep (fun _ => true) 0#64 ?_ ?_ (fun t σ1 _ h => by cases h)
    · rintro L t x σ' ⟨p, q, hp, ht⟩ _ hn' hag hl
      have hx : okNode 6 x = true := hA x (by rw [hp]; simp)
      have nz_0 : (0 = σ'.next) = False := by simp; omega
      have nx_0 : ∀ j, (0 = σ'.next + j) = False := fun j => by simp; omega
      have nz_1 : (1 = σ'.next) = False := by simp; omega
      have nx_1 : ∀ j, (1 = σ'.next + j) = False := fun j => by simp; omega
      have nz_2 : (2 = σ'.next) = False := by simp; omega
      have nx_2 : ∀ j, (2 = σ'.next + j) = False := fun j => by simp; omega
      have nz_3 : (3 = σ'.next) = False := by simp; omega
      have nx_3 : ∀ j, (3 = σ'.next + j) = False := fun j => by simp; omega
      simp only [toK, bindP, go_sem, seval, reduceCtorEq]
      unfold bstep
      cases h2 : (x.op == 2) with
      | true =>
        obtain ⟨e, h0⟩ := bitV_shl hx h2
        have H := And.intro @nz_0 (And.intro @nx_0 (And.intro @nz_1 (And.intro @nx_1 (And.intro @nz_2 (And.intro @nx_2 (And.intro @nz_3 (And.intro @nx_3 (And.intro @hag (And.intro @hl (And.intro @orI_bv (And.intro @h2 (And.intro @e @h0))))))))))))
        refine autoA ?_
        repeat' (first | (refine WK.draw (ops := #[_, _, _, _, _, _]) [dq 0 0, dq 0 0, dq 0 0, dq 0 0, dq 0 0, dm] mixed (by kernel_rfl) ?_; refine autoA ?_))
        try exact trivial
        exact bodyA
      | false =>
        have e : bitV x.op x.var = 0#64 := by unfold bitV; rw [if_neg (beq_eq_false_iff_ne.1 h2)]
        rw [e, BitVec.or_zero]
        have H := And.intro @nz_0 (And.intro @nx_0 (And.intro @nz_1 (And.intro @nx_1 (And.intro @nz_2 (And.intro @nx_2 (And.intro @nz_3 (And.intro @nx_3 (And.intro @hag (And.intro @hl (And.intro @orI_bv @h2))))))))))
        refine autoA ?_
        repeat' (first | (refine WK.draw (ops := #[_, _, _, _, _, _]) [dq 0 0, dq 0 0, dq 0 0, dq 0 0, dq 0 0, dm] mixed (by kernel_rfl) ?_; refine autoA ?_))
        try exact trivial
        exact bodyA
    · rintro t rfl _
      rw [hand_all, fold_bits, BitVec.zero_or]
      simp only [go_sem, seval, reduceCtorEq]
      have H := trivial
      refine autoA ?_
      repeat' (first | (refine WK.draw (ops := #[_, _, _, _, _, _]) [dq 0 0, dq 0 0, dq 0 0, dq 0 0, dq 0 0, dm] mixed (by kernel_rfl) ?_; refine autoA ?_))
      try exact trivial
      exact cut_none _
end
end Go.Sx

set_option maxRecDepth 100000
set_option maxHeartbeats 4000000
set_option linter.unusedSimpArgs false
set_option linter.unusedVariables false
set_option linter.unnecessarySimpa false
namespace Go.Sx
open Go Go.Lg Go.Proofs
theorem b55 {gl : GL} : Body (C gl).P 55 Tryd.f55 (codeOf Tryd.f55) := ⟨Tryd.func55, by kernel_rfl, by kernel_rfl⟩
theorem b56 {gl : GL} : Body (C gl).P 56 Tryd.f56 (codeOf Tryd.f56) := ⟨Tryd.func56, by kernel_rfl, by kernel_rfl⟩
theorem b118 {gl : GL} : Body (C gl).P 118 Tryd.f118 (codeOf Tryd.f118) := ⟨Tryd.func118, by kernel_rfl, by kernel_rfl⟩
def hasN (o : Int) (f : Fm) : Bool := (nodesF f).any fun x => x.op == o
theorem hasL_any (o : Int) : ∀ l : List Fm, (nodesL l).any (fun x => x.op == o) = l.any (hasN o)
  | [] => rfl
  | f :: l => by rw [nodesL, List.any_append, hasL_any o l]; rfl
theorem hasN_eq (o p v : Int) (l : List Fm) : hasN o (.mk p v l) = ((p == o) || l.any (hasN o)) := by
  unfold hasN
  rw [nodesF, List.any_cons, hasL_any]
  rfl
def unsafeX (x : Fm) : Bool := (x.op == 9) || (x.op == 11)
theorem any_or (l : List Fm) : l.any unsafeX = (l.any (fun x => x.op == 9) || l.any (fun x => x.op == 11)) := by
  induction l with
  | nil => rfl
  | cons x l ih =>
    rw [List.any_cons, List.any_cons, List.any_cons, ih]
    unfold unsafeX
    cases x.op == 9 <;> cases x.op == 11 <;> cases l.any (fun x => x.op == 9) <;> rfl
theorem hand_any : ∀ l : List Fm, handT (fun (_ : Bool) x => !unsafeX x) (fun t => t) true l = !(l.any unsafeX)
  | [] => rfl
  | x :: l => by
    rw [handT]
    cases h : unsafeX x with
    | false => rw [Bool.not_false, if_pos rfl, hand_any l, List.any_cons, h, Bool.false_or]
    | true => rw [Bool.not_true, if_neg Bool.false_ne_true, List.any_cons, h, Bool.true_or]; rfl
/-- What Safe answers. -/
def safS (f : Fm) : Bool × Int := if (nnfS true f).2 = 0 then (!((nodesF (nnfS true f).1).any unsafeX), 0) else (false, (nnfS true f).2)
section
variable {gl : GL}
theorem has_k (o p v : Int) (l : List Fm) (hlen : l.length < 1000000) (ih : ∀ g, Ctr (C gl) 118 [encF g, .int .i64 o] (g ∈ l) (.bool (hasN o g))) : PCall (C gl) 118 [encF (.mk p v l), .int .i64 o] (.bool (hasN o (.mk p v l))) := by
  refine pcallX (callX_of b118 (by simp [Tryd.ntmps118]) ?_) (by simp only [AllCl, cl_encF, cl_int, and_true]) (.bool _)
  refine W.of ?_
  rw [Tryd.ntmps118]
  simp only [toK, codeOf, Tryd.f118, go_sem, seval, reduceCtorEq]
  rw [hasN_eq]
  have H := trivial
  refine autoA ?_
  try exact trivial
  refine rangeAI (l.length) [1, 2, 8] [] (fun i => []) (fun i => (Sto.none.add (.box [.int .i64 p, .int .i64 v, .list false (encFs l)]))) (fun i => (l.take i).any (hasN o) = false) ?_ ?_
  · intro i hi hI
    cases hp : hasN o l[i] with
    | true =>
      have e : l.any (hasN o) = true := List.any_eq_true.2 ⟨_, List.getElem_mem hi, hp⟩
      rw [e, Bool.or_true]
      have H := And.intro @hi @hp
      refine autoA ?_
      try exact trivial
      exact cut_none _
    | false =>
      have H := And.intro @hi @hp
      refine autoA ?_
      try exact trivial
      refine ⟨?_, cutA⟩
      rw [← List.take_append_getElem hi, List.any_append, hI]; simp [hp]
  · intro hI
    rw [List.take_length] at hI
    rw [hI, Bool.or_false]
    have H := trivial
    refine autoA ?_
    try exact trivial
    exact cut_none _
theorem has_ok (o : Int) (f : Fm) : ShorF f → PCall (C gl) 118 [encF f, .int .i64 o] (.bool (hasN o f)) := by
  induction f using Fm.ind with
  | h p v l ih =>
    intro hs
    exact has_k o p v l hs.1 fun g => ⟨fun hg => ih g hg (hs.2.mem g hg)⟩
instance has_i (o : Int) (f : Fm) : Ctr (C gl) 118 [encF f, .int .i64 o] (ShorF f) (.bool (hasN o f)) := ⟨has_ok o f⟩
theorem getD_shor {l : List Fm} (h : ∀ g ∈ l, ShorF g) (i : Nat) : ShorF (l.getD i fz) := by
  rw [List.getD_eq_getElem?_getD]
  by_cases hi : i < l.length
  · rw [List.getElem?_eq_getElem hi]; exact h _ (List.getElem_mem hi)
  · rw [List.getElem?_eq_none (by omega)]; exact shorF_of _ (by decide)
theorem shor0 (o v : Int) : ShorF (.mk o v []) := ⟨by simp, trivial⟩
theorem shor1 {o v : Int} {a : Fm} (h : ShorF a) : ShorF (.mk o v [a]) := ⟨by simp, h, trivial⟩
theorem shor2 {o v : Int} {a b : Fm} (h : ShorF a) (k : ShorF b) : ShorF (.mk o v [a, b]) := ⟨by simp, h, k, trivial⟩
theorem shor_if {c : Prop} [Decidable c] {a b : Fm} (h : ShorF a) (k : ShorF b) : ShorF (if c then a else b) := by
  by_cases hc : c
  · rw [if_pos hc]; exact h
  · rw [if_neg hc]; exact k
theorem formC_shor (yes : Bool) (o v : Int) (l P N : List Fm) (hl : ShorF (.mk o v l)) (hP : ∀ g ∈ P, ShorF g) (hN : ∀ g ∈ N, ShorF g) : ShorF (formC yes o v l P N) := by
  have p0 := getD_shor hP 0
  have p1 := getD_shor hP 1
  have n0 := getD_shor hN 0
  have n1 := getD_shor hN 1
  unfold formC
  cases yes <;> simp only [if_true, Bool.false_eq_true, if_false]
  all_goals repeat' (first | assumption | exact shor0 _ _ | refine shor_if ?_ ?_ | refine shor2 ?_ ?_ | refine shor1 ?_)
theorem form_shor (f : Fm) : ShorF f → ∀ yes, ShorF (formF yes f) := by
  induction f using Fm.ind with
  | h o v l ih =>
    intro hs yes
    have hL : ∀ (y : Bool) (m : List Fm), (∀ g ∈ m, g ∈ l) → ∀ g ∈ formL y m, ShorF g := by
      intro y m
      induction m with
      | nil => intro _ g hg; rw [formL] at hg; cases hg
      | cons x m ih2 =>
        intro h g hg
        rw [formL] at hg
        rcases List.mem_cons.1 hg with rfl | hg
        · exact ih x (h x (by simp)) (hs.2.mem x (h x (by simp))) y
        · exact ih2 (fun z hz => h z (List.mem_cons_of_mem _ hz)) g hg
    rw [formF]
    exact formC_shor yes o v l _ _ hs (hL true l fun _ h => h) (hL false l fun _ h => h)
theorem nnf_shor (f : Fm) : ShorF (nnfS true f).1 := by
  unfold nnfS
  by_cases h1 : validF f 6 = true
  · rw [if_pos h1]
    by_cases h2 : (if true = true then (cntF f).1 else (cntF f).2) > 60
    · rw [if_pos h2]; exact shorF_of _ (by decide)
    · rw [if_neg h2]; exact form_shor f (valid_both h1).1 true
  · rw [if_neg h1]; exact shorF_of _ (by decide)
theorem rSafe_ok (f : Fm) (hs : Shrt f) : PCall (C gl) 56 [encF f] (.tup [.bool (safS f).1, .int .i64 (safS f).2]) := by
  have h3 : Ctr (C gl) 45 [encF f] True (.tup [encF (nnfS true f).1, .int .i64 (nnfS true f).2]) := ⟨fun _ => nnfR_ok f hs⟩
  have hsh := nnf_shor f
  refine pcallX (callX_of b56 (by simp [Tryd.ntmps56]) ?_) (by simp only [AllCl, cl_encF, and_true]) (by simp only [cl_tup, AllCl, cl_bool, cl_int, and_true])
  refine W.of ?_
  rw [Tryd.ntmps56]
  simp only [toK, codeOf, Tryd.f56, go_sem, seval, reduceCtorEq]
  cases he : ((nnfS true f).2 != 0) with
  | true =>
    rw [show safS f = (false, (nnfS true f).2) by unfold safS; rw [if_neg (by simpa using he)]]
    have H := @he
    refine autoA ?_
    try exact trivial
    exact cut_none _
  | false =>
    rw [show safS f = (!((nodesF (nnfS true f).1).any unsafeX), (0 : Int)) by unfold safS; rw [if_pos (by simpa using he)], any_or]
    cases k9 : hasN 9 (nnfS true f).1 with
    | true =>
      have k9' : (nodesF (nnfS true f).1).any (fun x => x.op == 9) = true := k9
      rw [k9']
      have H := And.intro @he (And.intro @hsh @k9)
      refine autoA ?_
      try exact trivial
      exact cut_none _
    | false =>
      have k9' : (nodesF (nnfS true f).1).any (fun x => x.op == 9) = false := k9
      rw [k9', Bool.false_or, show (nodesF (nnfS true f).1).any (fun x => x.op == 11) = hasN 11 (nnfS true f).1 from rfl]
      have H := And.intro @he (And.intro @hsh @k9)
      refine autoA ?_
      try exact trivial
      exact cut_none _
theorem wSafe_ok (har : gl.at' 0 = arityA) (f : Fm) (hs : Shrt f) : PCall (C gl) 55 [encF f] (.tup [.bool (safS f).1, .int .i64 (safS f).2]) := by
  have h3 : Ctr (C gl) 42 [encF f] True (.tup [encF (nnfS true f).1, .int .i64 (nnfS true f).2]) := ⟨fun _ => nnf_ok har f hs⟩
  have hsh := nnf_shor f
  refine pcallX (callX_of b55 (by simp [Tryd.ntmps55]) ?_) (by simp only [AllCl, cl_encF, and_true]) (by simp only [cl_tup, AllCl, cl_bool, cl_int, and_true])
  refine W.of ?_
  rw [Tryd.ntmps55]
  simp only [toK, codeOf, Tryd.f55, go_sem, seval, reduceCtorEq]
  cases he : ((nnfS true f).2 != 0) with
  | true =>
    rw [show safS f = (false, (nnfS true f).2) by unfold safS; rw [if_neg (by simpa using he)]]
    have H := @he
    refine autoA ?_
    try exact trivial
    exact cut_none _
  | false =>
    rw [show safS f = (!((nodesF (nnfS true f).1).any unsafeX), (0 : Int)) by unfold safS; rw [if_pos (by simpa using he)]]
    have H := @he
    refine autoA ?_
    try exact trivial
    generalize (nnfS true f).1 = g at hsh ⊢
    have hsg := shrt_of_shor _ hsh
    refine WK.forNodesW 5 [1, 2, 3, 4] g hsg 4 (fun t : Bool => (((((Sto.none.add (.box [.int .i64 f.op, .int .i64 f.var, .list false (encFs f.args)])).add (.box [.bool false])).add (.box [.int .i64 0])).add (.box [.int .i64 g.op, .int .i64 g.var, .list false (encFs g.args)])).add (.box [.int .i64 g.op, .int .i64 g.var, .list false (encFs g.args)]))) (fun (_ : Bool) x => !unsafeX x) (fun t => t) true ?_ ?_ ?_
    · rintro L t x σ' ⟨p, q, hp, ht⟩ _ hn' hag hl
      have nz_0 : (0 = σ'.next) = False := by simp; omega
      have nx_0 : ∀ j, (0 = σ'.next + j) = False := fun j => by simp; omega
      have nz_1 : (1 = σ'.next) = False := by simp; omega
      have nx_1 : ∀ j, (1 = σ'.next + j) = False := fun j => by simp; omega
      have nz_2 : (2 = σ'.next) = False := by simp; omega
      have nx_2 : ∀ j, (2 = σ'.next + j) = False := fun j => by simp; omega
      have nz_3 : (3 = σ'.next) = False := by simp; omega
      have nx_3 : ∀ j, (3 = σ'.next + j) = False := fun j => by simp; omega
      have nz_4 : (4 = σ'.next) = False := by simp; omega
      have nx_4 : ∀ j, (4 = σ'.next + j) = False := fun j => by simp; omega
      have nz_5 : (5 = σ'.next) = False := by simp; omega
      have nx_5 : ∀ j, (5 = σ'.next + j) = False := fun j => by simp; omega
      simp only [toK, bindP, go_sem, seval, reduceCtorEq]
      have eu : unsafeX x = ((x.op == 9) || (x.op == 11)) := rfl
      rw [eu]
      cases k9 : (x.op == 9) with
      | true =>
        have H := And.intro @nz_0 (And.intro @nx_0 (And.intro @nz_1 (And.intro @nx_1 (And.intro @nz_2 (And.intro @nx_2 (And.intro @nz_3 (And.intro @nx_3 (And.intro @nz_4 (And.intro @nx_4 (And.intro @nz_5 (And.intro @nx_5 (And.intro @hag (And.intro @hl @k9)))))))))))))
        refine autoA ?_
        try exact trivial
        exact bodyA
      | false =>
      cases k11 : (x.op == 11) with
      | true =>
        have H := And.intro @nz_0 (And.intro @nx_0 (And.intro @nz_1 (And.intro @nx_1 (And.intro @nz_2 (And.intro @nx_2 (And.intro @nz_3 (And.intro @nx_3 (And.intro @nz_4 (And.intro @nx_4 (And.intro @nz_5 (And.intro @nx_5 (And.intro @hag (And.intro @hl (And.intro @k9 @k11))))))))))))))
        refine autoA ?_
        try exact trivial
        exact bodyA
      | false =>
        have H := And.intro @nz_0 (And.intro @nx_0 (And.intro @nz_1 (And.intro @nx_1 (And.intro @nz_2 (And.intro @nx_2 (And.intro @nz_3 (And.intro @nx_3 (And.intro @nz_4 (And.intro @nx_4 (And.intro @nz_5 (And.intro @nx_5 (And.intro @hag (And.intro @hl (And.intro @k9 @k11))))))))))))))
        refine autoA ?_
        try exact trivial
        exact bodyA
    · intro t ht hgo
      rw [hand_any] at ht
      have ha : (nodesF g).any unsafeX = false := by rw [ht] at hgo; simpa using hgo
      rw [ha]
      simp only [go_sem, seval, reduceCtorEq]
      have H := trivial
      refine autoA ?_
      try exact trivial
      exact cut_none _
    · intro t σ1 ht hgo hag
      rw [hand_any] at ht
      have ha : (nodesF g).any unsafeX = true := by rw [ht] at hgo; simpa using hgo
      have h1 := hag 1 (by omega)
      have h2 := hag 2 (by omega)
      simp only [go_sem, seval, reduceCtorEq] at h1 h2
      rw [ha]
      simp only [go_sem, seval, reduceCtorEq, h1, h2]
      exact cut_none _
end
end Go.Sx
