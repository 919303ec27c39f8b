import Derived.Test.YtndchmmclfidgaaDoorTrA
import Derived.Test.YtndchmmclfidgaaDoorTkP
import Derived.Test.YtndchmmclfidgaaDoorLgAv
set_option maxRecDepth 100000
set_option maxHeartbeats 4000000
set_option linter.unusedSimpArgs false
set_option linter.unusedVariables false
set_option linter.unnecessarySimpa false
namespace Go.Sx
open Go Go.Lg Go.Proofs
theorem b120 {gl : GL} : Body (C gl).P 120 Tryd.f120 (codeOf Tryd.f120) := ⟨Tryd.func120, by kernel_rfl, by kernel_rfl⟩
theorem b59 {gl : GL} : Body (C gl).P 59 Tryd.f59 (codeOf Tryd.f59) := ⟨Tryd.func59, by kernel_rfl, by kernel_rfl⟩
def pickF (y : Bool) (a b : Fm) : Fm := if y = true then a else b
def same2 (f : Fm) : Fm × Bool :=
  if sameF (arg f 0) (arg f 1) = true then (if (f.op == 6) = true then (constF true, true) else if (f.op == 7) = true then (constF true, true) else (arg f 0, true)) else (f, false)
def firstC (f : Fm) (yes : Bool) : Fm :=
  let a := arg f 0
  let b := arg f 1
  if (f.op == 4) = true then pickF yes b a
  else if (f.op == 5) = true then pickF yes a b
  else if (f.op == 6) = true then pickF yes b (constF true)
  else if (f.op == 7) = true then pickF yes b (notF b)
  else if (f.op == 11) = true then (if yes = true then (oneF (.mk 9 0 [b])).1 else b)
  else if (f.op == 12) = true then (if yes = true then b else (oneF (.mk 10 0 [b])).1)
  else pickF yes (constF true) b
def firstF (f : Fm) : Fm × Bool :=
  if ((arg f 0).op == 0) = true then (firstC f true, true) else if ((arg f 0).op == 1) = true then (firstC f false, true) else (f, false)
def secondC (f : Fm) (yes : Bool) : Fm :=
  let a := arg f 0
  let b := arg f 1
  if (f.op == 4) = true then pickF yes a b
  else if (f.op == 5) = true then pickF yes b a
  else if (f.op == 6) = true then (if yes = true then b else notF a)
  else if (f.op == 7) = true then pickF yes a (notF a)
  else if (f.op == 13) = true then (if yes = true then b else (oneF (.mk 10 0 [a])).1)
  else b
def secondF (f : Fm) : Fm × Bool :=
  if ((arg f 1).op == 0) = true then (secondC f true, true) else if ((arg f 1).op == 1) = true then (secondC f false, true) else (f, false)
theorem okA_op3 {g : Fm} (h : okA g) : g.op = 3 → ∃ x, g.args = [x] := by
  intro h3
  have := h g (by cases g; exact nodes_self _)
  obtain ⟨o, v, l⟩ := g
  rw [okNode_eq] at this
  simp only [Bool.and_eq_true] at this
  simp only [fm_op] at h3
  subst h3
  have hl : (l.length : Int) = 1 := of_decide_eq_true this.1.2
  have h1 : l.length = 1 := by omega
  exact List.length_eq_one_iff.1 h1
section
variable {gl : GL}
theorem eqf_ok (l l' : List Fm) (hl : l.length < 1000000) (h : ∀ g g', Ctr (C gl) 59 [encF g, encF g'] (g ∈ l) (.bool (sameF g g'))) :
    PCall (C gl) 120 [.list false (encFs l), .list false (encFs l'), .fn 59 []] (.bool (sameL l l')) := by
  refine pcallX (callX_of b120 (by simp [Tryd.ntmps120]) ?_) (by simp only [AllCl, cl_list, clE_encFs, and_true, true_and]; exact .fn _ _ (fun c hc => by cases hc)) (.bool _)
  refine W.of ?_
  rw [Tryd.ntmps120]
  simp only [toK, codeOf, Tryd.f120, go_sem, seval, reduceCtorEq]
  cases hn : ((l.length : Int) == (l'.length : Int)) with
  | false =>
    have e0 : sameL l l' = false := sameL_len hn
    have H := And.intro @hn @e0
    refine autoA ?_
    try exact trivial
    try exact cut_none _
  | true =>
    have hll : l.length = l'.length := by have : (l.length : Int) = l'.length := by simpa using hn
                                          omega
    have H := @hn
    refine autoA ?_
    try exact trivial
    refine rangeAI (l.length) [1, 2, 15] [] (fun i => []) (fun i => Sto.none) (fun i => l.take i = l'.take i) ?_ ?_
    · intro i hi hI
      have hi' : i < l'.length := by omega
      have hi2 : (i : Int) < (l'.length : Int) := by omega
      have H := And.intro @hi (And.intro @hi' @hi2)
      refine autoA ?_
      try exact trivial
      cases hs : sameF l[i] l'[i] with
      | false =>
        have hne : sameL l l' = false := Bool.eq_false_iff.2 fun e => by
          have := (sameL_iff l l').1 e
          subst this
          rw [sameF_self] at hs; cases hs
        have H := And.intro @hs @hne
        refine autoA ?_
        try exact trivial
        try exact cut_none _
      | true =>
        have H := @hs
        refine autoA ?_
        try exact trivial
        refine ⟨?_, cutA⟩
        rw [← List.take_append_getElem hi, ← List.take_append_getElem hi', hI, (sameF_iff _ _).1 hs]
    · intro hI
      rw [List.take_length, hll, List.take_length] at hI
      subst hI
      have hss : sameL l l = true := (sameL_iff l l).2 rfl
      have H := @hss
      refine autoA ?_
      try exact trivial
      try exact cut_none _
theorem lsame_k (o v o' v' : Int) (l l' : List Fm) (hl : l.length < 1000000) (h : ∀ g g', Ctr (C gl) 59 [encF g, encF g'] (g ∈ l) (.bool (sameF g g'))) :
    PCall (C gl) 59 [encF (.mk o v l), encF (.mk o' v' l')] (.bool (sameF (.mk o v l) (.mk o' v' l'))) := by
  refine pcallX (callX_of b59 (by simp [Tryd.ntmps59]) ?_) (by simp only [AllCl, cl_encF, and_true]) (.bool _)
  have hq : Ctr (C gl) 120 [.list false (encFs l), .list false (encFs l'), .fn 59 []] True (.bool (sameL l l')) := ⟨fun _ => eqf_ok l l' hl h⟩
  refine W.of ?_
  rw [Tryd.ntmps59]
  simp only [toK, codeOf, Tryd.f59, go_sem, seval, reduceCtorEq]
  have H := trivial
  refine autoA ?_
  repeat' (first | (refine WK.condS (ht := ?_) (hf := ?_) <;> intro hb <;> (try simp only [Bool.not_eq_true', Bool.not_eq_false'] at hb) <;> (try simp only [hb]) <;> refine autoA ?_) | (refine gdW_S ?_ ?_ <;> intro hb <;> (try simp only [Bool.not_eq_true', Bool.not_eq_false'] at hb) <;> (try simp only [hb]) <;> refine autoA ?_) | (refine gdD_S ?_ ?_ <;> intro hb <;> (try simp only [Bool.not_eq_true', Bool.not_eq_false'] at hb) <;> (try simp only [hb]) <;> refine autoA ?_))
  all_goals try exact trivial
  all_goals first | exact cut_none _ | (refine ⟨?_, cut_none _⟩; simp only [sameF, *]; rfl) | (simp only [sameF, *]; exact cut_none _)
theorem lsame_ok (f : Fm) : ShorF f → ∀ g, PCall (C gl) 59 [encF f, encF g] (.bool (sameF f g)) := by
  induction f using Fm.ind with
  | h o v l ih =>
    intro hs g
    obtain ⟨o', v', l'⟩ := g
    simp only [ShorF] at hs
    exact lsame_k o v o' v' l l' hs.1 fun g g' => ⟨fun hg => ih g hg (hs.2.mem g hg) g'⟩
instance lsame_i (f g : Fm) : Ctr (C gl) 59 [encF f, encF g] (ShorF f) (.bool (sameF f g)) := ⟨fun h => lsame_ok f h g⟩
theorem wpick_ok (y : Bool) (a b : Fm) : PCall (C gl) 219 [.bool y, encF a, encF b] (encF (pickF y a b)) := by
  refine pcallX (callX_of b219 (by simp [Tryd.ntmps219]) ?_) (by simp only [AllCl, cl_encF, cl_bool, and_true]) (by simp only [cl_encF])
  refine W.of ?_
  rw [Tryd.ntmps219]
  simp only [toK, codeOf, Tryd.f219, go_sem, seval, reduceCtorEq]
  cases y
  all_goals
    have H := trivial
    refine autoA ?_
    try exact trivial
    first | exact cut_none _ | (refine finA (by first | (simp only [go_sem, seval, reduceCtorEq, pickF, encF_fold, encF_fold0, Fm.eta, encFs_fold1, encFs_fold2, encFs_fold3]; done) | (simp only [go_sem, seval, reduceCtorEq, pickF, encF_fold, encF_fold0, Fm.eta, encFs_fold1, encFs_fold2, encFs_fold3]; rfl)))
instance wpick_i (y : Bool) (a b : Fm) : Ctr (C gl) 219 [.bool y, encF a, encF b] True (encF (pickF y a b)) := ⟨fun _ => wpick_ok y a b⟩
instance wone_i (o v : Int) (g : Fm) : Ctr (C gl) 204 [encF (.mk o v [g])] (okA g) (.tup [encF (oneF (.mk o v [g])).1, .bool (oneF (.mk o v [g])).2]) := ⟨fun h => wone_k o v g (okA_op3 h)⟩
theorem wshorter_ok (o v : Int) (g : Fm) (h : okA g) : PCall (C gl) 221 [encF (.mk o v [g])] (encF (oneF (.mk o v [g])).1) := by
  refine pcallX (callX_of b221 (by simp [Tryd.ntmps221]) ?_) (by simp only [AllCl, cl_encF, and_true]) (by simp only [cl_encF])
  refine W.of ?_
  rw [Tryd.ntmps221]
  simp only [toK, codeOf, Tryd.f221, go_sem, seval, reduceCtorEq]
  have H := trivial
  refine autoA ?_
  try exact trivial
  first | exact cut_none _ | exact finA
instance wshorter_i (o v : Int) (g : Fm) : Ctr (C gl) 221 [encF (.mk o v [g])] (okA g) (encF (oneF (.mk o v [g])).1) := ⟨wshorter_ok o v g⟩
end
end Go.Sx
