import Derived.Test.YtlhdjjnjhpfgoaaDoorQTkN
import Derived.Test.YtlhdjjnjhpfgoaaDoorLgAv
import Derived.Test.YtlhdjjnjhpfgoaaDoorQTkP
import Derived.Test.YtlhdjjnjhpfgoaaDoorQShA
set_option maxRecDepth 100000
set_option maxHeartbeats 4000000
set_option linter.unusedSimpArgs false
set_option linter.unusedVariables false
set_option linter.unnecessarySimpa false
namespace Go.Sx
open Go Go.Lg Go.Proofs
theorem b70 {gl : GL} : Body (C gl).P 70 Tryd.f70 (codeOf Tryd.f70) := ⟨Tryd.func70, by kernel_rfl, by kernel_rfl⟩
theorem b69 {gl : GL} : Body (C gl).P 69 Tryd.f69 (codeOf Tryd.f69) := ⟨Tryd.func69, by kernel_rfl, by kernel_rfl⟩
theorem b72 {gl : GL} : Body (C gl).P 72 Tryd.f72 (codeOf Tryd.f72) := ⟨Tryd.func72, by kernel_rfl, by kernel_rfl⟩
theorem b59 {gl : GL} : Body (C gl).P 59 Tryd.f59 (codeOf Tryd.f59) := ⟨Tryd.func59, by kernel_rfl, by kernel_rfl⟩
theorem b71 {gl : GL} : Body (C gl).P 71 Tryd.f71 (codeOf Tryd.f71) := ⟨Tryd.func71, by kernel_rfl, by kernel_rfl⟩
theorem b73 {gl : GL} : Body (C gl).P 73 Tryd.f73 (codeOf Tryd.f73) := ⟨Tryd.func73, by kernel_rfl, by kernel_rfl⟩
theorem b60 {gl : GL} : Body (C gl).P 60 Tryd.f60 (codeOf Tryd.f60) := ⟨Tryd.func60, by kernel_rfl, by kernel_rfl⟩
/-! ## Rules that make a formula simpler -/
def constF (yes : Bool) : Fm := if yes = true then .mk 0 0 [] else .mk 1 0 []
def arg (f : Fm) (i : Nat) : Fm := f.args.getD i fz
def notF (f : Fm) : Fm := if (f.op == 0) = true then .mk 1 0 [] else if (f.op == 1) = true then .mk 0 0 [] else if (f.op == 3) = true then arg f 0 else .mk 3 0 [f]
def oneF (f : Fm) : Fm × Bool :=
  let a := arg f 0
  if (f.op == 3) = true then
    (if (a.op == 0) = true then (notF a, true) else if (a.op == 1) = true then (notF a, true) else if (a.op == 3) = true then (notF a, true) else (f, false))
  else if (a.op == 0) = true then (a, true) else if (a.op == 1) = true then (a, true)
  else if (f.op == a.op) = true then (if (f.op == 9) = true then (a, true) else if (f.op == 10) = true then (a, true) else (f, false))
  else (f, false)
section
variable {gl : GL}
instance make_i (o : Int) (l : List Fm) : Ctr (C gl) 23 [.int .i64 o, .list false (encFs l)] True (encF (.mk o 0 l)) := ⟨fun _ => make_ok false o l⟩
instance make_i0 (o : Int) : Ctr (C gl) 23 [.int .i64 o, .list false []] True (encF (.mk o 0 [])) := ⟨fun _ => make_ok false o []⟩
theorem wis_ok (f : Fm) (o : Int) : PCall (C gl) 70 [encF f, .int .i64 o] (.bool (f.op == o)) := by
  refine pcallX (callX_of b70 (by simp [Tryd.ntmps70]) ?_) (by simp only [AllCl, cl_encF, cl_int, and_true]) (.bool _)
  refine W.of ?_
  rw [Tryd.ntmps70]
  simp only [toK, codeOf, Tryd.f70, go_sem, seval, reduceCtorEq]
  have H := trivial
  refine autoA ?_
  try exact trivial
  exact cut_none _
instance wis_i (f : Fm) (o : Int) : Ctr (C gl) 70 [encF f, .int .i64 o] True (.bool (f.op == o)) := ⟨fun _ => wis_ok f o⟩
theorem const_ok (b : Bool) : PCall (C gl) 69 [.bool b] (encF (constF b)) := by
  refine pcallX (callX_of b69 (by simp [Tryd.ntmps69]) ?_) (by simp only [AllCl, cl_bool, and_true]) (by simp only [cl_encF])
  refine W.of ?_
  rw [Tryd.ntmps69]
  simp only [toK, codeOf, Tryd.f69, go_sem, seval, reduceCtorEq]
  cases b
  all_goals
    have H := trivial
    refine autoA ?_
    try exact trivial
    first | exact cut_none _ | (refine finA (by first | (simp only [go_sem, seval, reduceCtorEq, constF, encF_fold, encF_fold0, Fm.eta, encFs_fold1, encFs_fold2, encFs_fold3]; done) | (simp only [go_sem, seval, reduceCtorEq, constF, encF_fold, encF_fold0, Fm.eta, encFs_fold1, encFs_fold2, encFs_fold3]; rfl)))
instance const_i (b : Bool) : Ctr (C gl) 69 [.bool b] True (encF (constF b)) := ⟨fun _ => const_ok b⟩
/-- Argument counts fit the operator. -/
def ar1 (f : Fm) : Prop := ∃ g, f.args = [g]
theorem args1 {f : Fm} {g : Fm} (h : f.args = [g]) : arg f 0 = g ∧ f = .mk f.op f.var [g] := by
  refine ⟨by rw [arg, h]; rfl, ?_⟩
  cases f; simp only [fm_args] at h; simp only [fm_op, fm_var, h]
theorem wnot_ok (f : Fm) (h : f.op = 3 → ∃ g, f.args = [g]) : PCall (C gl) 72 [encF f] (encF (notF f)) := by
  refine pcallX (callX_of b72 (by simp [Tryd.ntmps72]) ?_) (by simp only [AllCl, cl_encF, and_true]) (by simp only [cl_encF])
  refine W.of ?_
  rw [Tryd.ntmps72]
  simp only [toK, codeOf, Tryd.f72, go_sem, seval, reduceCtorEq]
  cases h0 : (f.op == 0) with
  | true =>
    have e := eq_of_beq h0
    have H := @e
    refine autoA ?_
    try exact trivial
    first | exact cut_none _ | (refine finA (by first | (simp only [go_sem, seval, reduceCtorEq, notF, e, constF, encF_fold, encF_fold0, Fm.eta, encFs_fold1, encFs_fold2, encFs_fold3]; done) | (simp only [go_sem, seval, reduceCtorEq, notF, e, constF, encF_fold, encF_fold0, Fm.eta, encFs_fold1, encFs_fold2, encFs_fold3]; rfl)))
  | false =>
  cases h1 : (f.op == 1) with
  | true =>
    have e := eq_of_beq h1
    have H := @e
    refine autoA ?_
    try exact trivial
    first | exact cut_none _ | (refine finA (by first | (simp only [go_sem, seval, reduceCtorEq, notF, e, constF, encF_fold, encF_fold0, Fm.eta, encFs_fold1, encFs_fold2, encFs_fold3]; done) | (simp only [go_sem, seval, reduceCtorEq, notF, e, constF, encF_fold, encF_fold0, Fm.eta, encFs_fold1, encFs_fold2, encFs_fold3]; rfl)))
  | false =>
  cases h3 : (f.op == 3) with
  | true =>
    have e := eq_of_beq h3
    obtain ⟨g, hg⟩ := h e
    have H := And.intro @e @hg
    refine autoA ?_
    try exact trivial
    first | exact cut_none _ | (refine finA (by first | (simp only [go_sem, seval, reduceCtorEq, notF, e, (args1 hg).1, encF_fold, encF_fold0, Fm.eta, encFs_fold1, encFs_fold2, encFs_fold3]; done) | (simp only [go_sem, seval, reduceCtorEq, notF, e, (args1 hg).1, encF_fold, encF_fold0, Fm.eta, encFs_fold1, encFs_fold2, encFs_fold3]; rfl)))
  | false =>
    have H := And.intro @h0 (And.intro @h1 @h3)
    refine autoA ?_
    try exact trivial
    first | exact cut_none _ | (refine finA (by first | (simp only [go_sem, seval, reduceCtorEq, notF, h0, h1, h3, encF_fold, encF_fold0, Fm.eta, encFs_fold1, encFs_fold2, encFs_fold3]; done) | (simp only [go_sem, seval, reduceCtorEq, notF, h0, h1, h3, encF_fold, encF_fold0, Fm.eta, encFs_fold1, encFs_fold2, encFs_fold3]; rfl)))
instance wnot_i (f : Fm) : Ctr (C gl) 72 [encF f] (f.op = 3 → ∃ g, f.args = [g]) (encF (notF f)) := ⟨wnot_ok f⟩
theorem wone_k (o v : Int) (g : Fm) (hn : g.op = 3 → ∃ x, g.args = [x]) : PCall (C gl) 59 [encF (.mk o v [g])] (.tup [encF (oneF (.mk o v [g])).1, .bool (oneF (.mk o v [g])).2]) := by
  refine pcallX (callX_of b59 (by simp [Tryd.ntmps59]) ?_) (by simp only [AllCl, cl_encF, and_true]) (by simp only [cl_tup, AllCl, cl_encF, cl_bool, and_true])
  refine W.of ?_
  rw [Tryd.ntmps59]
  simp only [toK, codeOf, Tryd.f59, go_sem, seval, reduceCtorEq]
  have ha : arg (.mk o v [g]) 0 = g := rfl
  have H := trivial
  refine autoA ?_
  repeat' (first | (refine WK.condS (ht := ?_) (hf := ?_) <;> intro hb <;> (try simp only [Bool.not_eq_true', Bool.not_eq_false'] at hb) <;> (try simp only [hb]) <;> refine autoA ?_) | (refine gdW_S ?_ ?_ <;> intro hb <;> (try simp only [Bool.not_eq_true', Bool.not_eq_false'] at hb) <;> (try simp only [hb]) <;> refine autoA ?_) | (refine gdD_S ?_ ?_ <;> intro hb <;> (try simp only [Bool.not_eq_true', Bool.not_eq_false'] at hb) <;> (try simp only [hb]) <;> refine autoA ?_))
  all_goals try exact trivial
  all_goals first | exact cut_none _ | (refine finA (by first | (simp only [go_sem, seval, reduceCtorEq, encF_fold, encF_fold0, Fm.eta, encFs_fold1, encFs_fold2, encFs_fold3, oneF, *]; done) | (simp only [go_sem, seval, reduceCtorEq, encF_fold, encF_fold0, Fm.eta, encFs_fold1, encFs_fold2, encFs_fold3, oneF, *]; rfl))) | (exfalso; simp_all; done)
end
end Go.Sx

set_option maxRecDepth 100000
set_option maxHeartbeats 4000000
set_option linter.unusedSimpArgs false
set_option linter.unusedVariables false
set_option linter.unnecessarySimpa false
namespace Go.Sx
open Go Go.Lg Go.Proofs
theorem b77 {gl : GL} : Body (C gl).P 77 Tryd.f77 (codeOf Tryd.f77) := ⟨Tryd.func77, by kernel_rfl, by kernel_rfl⟩
theorem b68 {gl : GL} : Body (C gl).P 68 Tryd.f68 (codeOf Tryd.f68) := ⟨Tryd.func68, by kernel_rfl, by kernel_rfl⟩
theorem b56 {gl : GL} : Body (C gl).P 56 Tryd.f56 (codeOf Tryd.f56) := ⟨Tryd.func56, by kernel_rfl, by kernel_rfl⟩
theorem b57 {gl : GL} : Body (C gl).P 57 Tryd.f57 (codeOf Tryd.f57) := ⟨Tryd.func57, by kernel_rfl, by kernel_rfl⟩
theorem b58 {gl : GL} : Body (C gl).P 58 Tryd.f58 (codeOf Tryd.f58) := ⟨Tryd.func58, by kernel_rfl, by kernel_rfl⟩
def pickF (y : Bool) (a b : Fm) : Fm := if y = true then a else b
def same2 (f : Fm) : Fm × Bool :=
  if sameF (arg f 0) (arg f 1) = true then (if (f.op == 6) = true then (constF true, true) else if (f.op == 7) = true then (constF true, true) else (arg f 0, true)) else (f, false)
def firstC (f : Fm) (yes : Bool) : Fm :=
  let a := arg f 0
  let b := arg f 1
  if (f.op == 4) = true then pickF yes b a
  else if (f.op == 5) = true then pickF yes a b
  else if (f.op == 6) = true then pickF yes b (constF true)
  else if (f.op == 7) = true then pickF yes b (notF b)
  else if (f.op == 11) = true then (if yes = true then (oneF (.mk 9 0 [b])).1 else b)
  else if (f.op == 12) = true then (if yes = true then b else (oneF (.mk 10 0 [b])).1)
  else pickF yes (constF true) b
def firstF (f : Fm) : Fm × Bool :=
  if ((arg f 0).op == 0) = true then (firstC f true, true) else if ((arg f 0).op == 1) = true then (firstC f false, true) else (f, false)
def secondC (f : Fm) (yes : Bool) : Fm :=
  let a := arg f 0
  let b := arg f 1
  if (f.op == 4) = true then pickF yes a b
  else if (f.op == 5) = true then pickF yes b a
  else if (f.op == 6) = true then (if yes = true then b else notF a)
  else if (f.op == 7) = true then pickF yes a (notF a)
  else if (f.op == 13) = true then (if yes = true then b else (oneF (.mk 10 0 [a])).1)
  else b
def secondF (f : Fm) : Fm × Bool :=
  if ((arg f 1).op == 0) = true then (secondC f true, true) else if ((arg f 1).op == 1) = true then (secondC f false, true) else (f, false)
theorem okA_op3 {g : Fm} (h : okA g) : g.op = 3 → ∃ x, g.args = [x] := by
  intro h3
  have := h g (by cases g; exact nodes_self _)
  obtain ⟨o, v, l⟩ := g
  rw [okNode_eq] at this
  simp only [Bool.and_eq_true] at this
  simp only [fm_op] at h3
  subst h3
  have hl : (l.length : Int) = 1 := of_decide_eq_true this.1.2
  have h1 : l.length = 1 := by omega
  exact List.length_eq_one_iff.1 h1
section
variable {gl : GL}
theorem eqf_ok (l l' : List Fm) (hl : l.length < 1000000) (h : ∀ g g', Ctr (C gl) 68 [encF g, encF g'] (g ∈ l) (.bool (sameF g g'))) :
    PCall (C gl) 77 [.list false (encFs l), .list false (encFs l'), .fn 68 []] (.bool (sameL l l')) := by
  refine pcallX (callX_of b77 (by simp [Tryd.ntmps77]) ?_) (by simp only [AllCl, cl_list, clE_encFs, and_true, true_and]; exact .fn _ _ (fun c hc => by cases hc)) (.bool _)
  refine W.of ?_
  rw [Tryd.ntmps77]
  simp only [toK, codeOf, Tryd.f77, go_sem, seval, reduceCtorEq]
  cases hn : ((l.length : Int) == (l'.length : Int)) with
  | false =>
    have e0 : sameL l l' = false := sameL_len hn
    have H := And.intro @hn @e0
    refine autoA ?_
    try exact trivial
    try exact cut_none _
  | true =>
    have hll : l.length = l'.length := by have : (l.length : Int) = l'.length := by simpa using hn
                                          omega
    have H := @hn
    refine autoA ?_
    try exact trivial
    refine rangeAI (l.length) [1, 2, 15] [] (fun i => []) (fun i => Sto.none) (fun i => l.take i = l'.take i) ?_ ?_
    · intro i hi hI
      have hi' : i < l'.length := by omega
      have hi2 : (i : Int) < (l'.length : Int) := by omega
      have H := And.intro @hi (And.intro @hi' @hi2)
      refine autoA ?_
      try exact trivial
      cases hs : sameF l[i] l'[i] with
      | false =>
        have hne : sameL l l' = false := Bool.eq_false_iff.2 fun e => by
          have := (sameL_iff l l').1 e
          subst this
          rw [sameF_self] at hs; cases hs
        have H := And.intro @hs @hne
        refine autoA ?_
        try exact trivial
        try exact cut_none _
      | true =>
        have H := @hs
        refine autoA ?_
        try exact trivial
        refine ⟨?_, cutA⟩
        rw [← List.take_append_getElem hi, ← List.take_append_getElem hi', hI, (sameF_iff _ _).1 hs]
    · intro hI
      rw [List.take_length, hll, List.take_length] at hI
      subst hI
      have hss : sameL l l = true := (sameL_iff l l).2 rfl
      have H := @hss
      refine autoA ?_
      try exact trivial
      try exact cut_none _
theorem lsame_k (o v o' v' : Int) (l l' : List Fm) (hl : l.length < 1000000) (h : ∀ g g', Ctr (C gl) 68 [encF g, encF g'] (g ∈ l) (.bool (sameF g g'))) :
    PCall (C gl) 68 [encF (.mk o v l), encF (.mk o' v' l')] (.bool (sameF (.mk o v l) (.mk o' v' l'))) := by
  refine pcallX (callX_of b68 (by simp [Tryd.ntmps68]) ?_) (by simp only [AllCl, cl_encF, and_true]) (.bool _)
  have hq : Ctr (C gl) 77 [.list false (encFs l), .list false (encFs l'), .fn 68 []] True (.bool (sameL l l')) := ⟨fun _ => eqf_ok l l' hl h⟩
  refine W.of ?_
  rw [Tryd.ntmps68]
  simp only [toK, codeOf, Tryd.f68, go_sem, seval, reduceCtorEq]
  have H := trivial
  refine autoA ?_
  repeat' (first | (refine WK.condS (ht := ?_) (hf := ?_) <;> intro hb <;> (try simp only [Bool.not_eq_true', Bool.not_eq_false'] at hb) <;> (try simp only [hb]) <;> refine autoA ?_) | (refine gdW_S ?_ ?_ <;> intro hb <;> (try simp only [Bool.not_eq_true', Bool.not_eq_false'] at hb) <;> (try simp only [hb]) <;> refine autoA ?_) | (refine gdD_S ?_ ?_ <;> intro hb <;> (try simp only [Bool.not_eq_true', Bool.not_eq_false'] at hb) <;> (try simp only [hb]) <;> refine autoA ?_))
  all_goals try exact trivial
  all_goals first | exact cut_none _ | (refine ⟨?_, cut_none _⟩; simp only [sameF, *]; rfl) | (simp only [sameF, *]; exact cut_none _)
theorem lsame_ok (f : Fm) : ShorF f → ∀ g, PCall (C gl) 68 [encF f, encF g] (.bool (sameF f g)) := by
  induction f using Fm.ind with
  | h o v l ih =>
    intro hs g
    obtain ⟨o', v', l'⟩ := g
    simp only [ShorF] at hs
    exact lsame_k o v o' v' l l' hs.1 fun g g' => ⟨fun hg => ih g hg (hs.2.mem g hg) g'⟩
instance lsame_i (f g : Fm) : Ctr (C gl) 68 [encF f, encF g] (ShorF f) (.bool (sameF f g)) := ⟨fun h => lsame_ok f h g⟩
theorem wpick_ok (y : Bool) (a b : Fm) : PCall (C gl) 71 [.bool y, encF a, encF b] (encF (pickF y a b)) := by
  refine pcallX (callX_of b71 (by simp [Tryd.ntmps71]) ?_) (by simp only [AllCl, cl_encF, cl_bool, and_true]) (by simp only [cl_encF])
  refine W.of ?_
  rw [Tryd.ntmps71]
  simp only [toK, codeOf, Tryd.f71, go_sem, seval, reduceCtorEq]
  cases y
  all_goals
    have H := trivial
    refine autoA ?_
    try exact trivial
    first | exact cut_none _ | (refine finA (by first | (simp only [go_sem, seval, reduceCtorEq, pickF, encF_fold, encF_fold0, Fm.eta, encFs_fold1, encFs_fold2, encFs_fold3]; done) | (simp only [go_sem, seval, reduceCtorEq, pickF, encF_fold, encF_fold0, Fm.eta, encFs_fold1, encFs_fold2, encFs_fold3]; rfl)))
instance wpick_i (y : Bool) (a b : Fm) : Ctr (C gl) 71 [.bool y, encF a, encF b] True (encF (pickF y a b)) := ⟨fun _ => wpick_ok y a b⟩
instance wone_i (o v : Int) (g : Fm) : Ctr (C gl) 59 [encF (.mk o v [g])] (okA g) (.tup [encF (oneF (.mk o v [g])).1, .bool (oneF (.mk o v [g])).2]) := ⟨fun h => wone_k o v g (okA_op3 h)⟩
theorem wshorter_ok (o v : Int) (g : Fm) (h : okA g) : PCall (C gl) 73 [encF (.mk o v [g])] (encF (oneF (.mk o v [g])).1) := by
  refine pcallX (callX_of b73 (by simp [Tryd.ntmps73]) ?_) (by simp only [AllCl, cl_encF, and_true]) (by simp only [cl_encF])
  refine W.of ?_
  rw [Tryd.ntmps73]
  simp only [toK, codeOf, Tryd.f73, go_sem, seval, reduceCtorEq]
  have H := trivial
  refine autoA ?_
  try exact trivial
  first | exact cut_none _ | exact finA
instance wshorter_i (o v : Int) (g : Fm) : Ctr (C gl) 73 [encF (.mk o v [g])] (okA g) (encF (oneF (.mk o v [g])).1) := ⟨wshorter_ok o v g⟩
theorem wnot_okA (g : Fm) (h : okA g) : Ctr (C gl) 72 [encF g] True (encF (notF g)) := ⟨fun _ => wnot_ok g (okA_op3 h)⟩
theorem wsame_ok (o v : Int) (a b : Fm) (hs : ShorF a) : PCall (C gl) 56 [encF (.mk o v [a, b])] (.tup [encF (same2 (.mk o v [a, b])).1, .bool (same2 (.mk o v [a, b])).2]) := by
  refine pcallX (callX_of b56 (by simp [Tryd.ntmps56]) ?_) (by simp only [AllCl, cl_encF, and_true]) (by simp only [cl_tup, AllCl, cl_encF, cl_bool, and_true])
  refine W.of ?_
  rw [Tryd.ntmps56]
  simp only [toK, codeOf, Tryd.f56, go_sem, seval, reduceCtorEq]
  have ha : arg (.mk o v [a, b]) 0 = a := rfl
  have hb' : arg (.mk o v [a, b]) 1 = b := rfl
  have H := trivial
  refine autoA ?_
  repeat' (first | (refine WK.condS (ht := ?_) (hf := ?_) <;> intro hb <;> (try simp only [Bool.not_eq_true', Bool.not_eq_false'] at hb) <;> (try simp only [hb]) <;> refine autoA ?_) | (refine gdW_S ?_ ?_ <;> intro hb <;> (try simp only [Bool.not_eq_true', Bool.not_eq_false'] at hb) <;> (try simp only [hb]) <;> refine autoA ?_) | (refine gdD_S ?_ ?_ <;> intro hb <;> (try simp only [Bool.not_eq_true', Bool.not_eq_false'] at hb) <;> (try simp only [hb]) <;> refine autoA ?_) | (refine WK.draw (ops := #[_, _, _, _, _, _, _]) [dq 0 0, dq 0 0, dq 0 0, dq 0 0, dq 0 0, dm, dq 0 0] mixed (by kernel_rfl) ?_; refine autoA ?_))
  all_goals try exact trivial
  all_goals first | exact cut_none _ | (refine finA (by first | (simp only [go_sem, seval, reduceCtorEq, encF_fold, encF_fold0, Fm.eta, encFs_fold1, encFs_fold2, encFs_fold3, same2, *]; done) | (simp only [go_sem, seval, reduceCtorEq, encF_fold, encF_fold0, Fm.eta, encFs_fold1, encFs_fold2, encFs_fold3, same2, *]; rfl))) | (exfalso; simp_all; done)
theorem wfirst_ok (o v : Int) (a b : Fm) (hA : okA b) : PCall (C gl) 57 [encF (.mk o v [a, b])] (.tup [encF (firstF (.mk o v [a, b])).1, .bool (firstF (.mk o v [a, b])).2]) := by
  refine pcallX (callX_of b57 (by simp [Tryd.ntmps57]) ?_) (by simp only [AllCl, cl_encF, and_true]) (by simp only [cl_tup, AllCl, cl_encF, cl_bool, and_true])
  have hn := wnot_okA (gl := gl) b hA
  refine W.of ?_
  rw [Tryd.ntmps57]
  simp only [toK, codeOf, Tryd.f57, go_sem, seval, reduceCtorEq]
  have ha : arg (.mk o v [a, b]) 0 = a := rfl
  have hb' : arg (.mk o v [a, b]) 1 = b := rfl
  have H := trivial
  refine autoA ?_
  repeat' (first | (refine WK.condS (ht := ?_) (hf := ?_) <;> intro hb <;> (try simp only [Bool.not_eq_true', Bool.not_eq_false'] at hb) <;> (try simp only [hb]) <;> refine autoA ?_) | (refine gdW_S ?_ ?_ <;> intro hb <;> (try simp only [Bool.not_eq_true', Bool.not_eq_false'] at hb) <;> (try simp only [hb]) <;> refine autoA ?_) | (refine gdD_S ?_ ?_ <;> intro hb <;> (try simp only [Bool.not_eq_true', Bool.not_eq_false'] at hb) <;> (try simp only [hb]) <;> refine autoA ?_) | (refine WK.drawF (ops := #[_, _, _, _, _, _, _, _, _, _, _, _]) [dq 0 0, dq 0 2, dq 0 2, dq 0 2, dq 0 0, dq 0 3, dq 0 3, dq 0 3, dm, dm, dm, dm] mixed (by kernel_rfl) ?_; refine autoA ?_) | (refine WK.draw (id := 11) [dq 0 0, dq 0 1, dm, dm, dm, dq 0 0] mixed (by kernel_rfl) ?_; refine autoA ?_) | (refine WK.draw (id := 22) [dq 0 0, dm, dq 1 0, dm, dm, dq 0 0] mixed (by kernel_rfl) ?_; refine autoA ?_) | (refine WK.draw (ops := #[_, _, _, _, _, _, _]) [dq 0 0, dq 0 1, dq 0 0, dm, dm, dm, dq 0 0] mixed (by kernel_rfl) ?_; refine autoA ?_))
  all_goals try exact trivial
  all_goals first | exact cut_none _ | (refine finA (by first | (simp only [go_sem, seval, reduceCtorEq, encF_fold, encF_fold0, Fm.eta, encFs_fold1, encFs_fold2, encFs_fold3, firstF, firstC, *]; done) | (simp only [go_sem, seval, reduceCtorEq, encF_fold, encF_fold0, Fm.eta, encFs_fold1, encFs_fold2, encFs_fold3, firstF, firstC, *]; rfl))) | (exfalso; simp_all; done)
theorem wsecond_ok (o v : Int) (a b : Fm) (hA : okA a) : PCall (C gl) 58 [encF (.mk o v [a, b])] (.tup [encF (secondF (.mk o v [a, b])).1, .bool (secondF (.mk o v [a, b])).2]) := by
  refine pcallX (callX_of b58 (by simp [Tryd.ntmps58]) ?_) (by simp only [AllCl, cl_encF, and_true]) (by simp only [cl_tup, AllCl, cl_encF, cl_bool, and_true])
  have hn := wnot_okA (gl := gl) a hA
  refine W.of ?_
  rw [Tryd.ntmps58]
  simp only [toK, codeOf, Tryd.f58, go_sem, seval, reduceCtorEq]
  have ha : arg (.mk o v [a, b]) 0 = a := rfl
  have hb' : arg (.mk o v [a, b]) 1 = b := rfl
  have H := trivial
  refine autoA ?_
  repeat' (first | (refine WK.condS (ht := ?_) (hf := ?_) <;> intro hb <;> (try simp only [Bool.not_eq_true', Bool.not_eq_false'] at hb) <;> (try simp only [hb]) <;> refine autoA ?_) | (refine gdW_S ?_ ?_ <;> intro hb <;> (try simp only [Bool.not_eq_true', Bool.not_eq_false'] at hb) <;> (try simp only [hb]) <;> refine autoA ?_) | (refine gdD_S ?_ ?_ <;> intro hb <;> (try simp only [Bool.not_eq_true', Bool.not_eq_false'] at hb) <;> (try simp only [hb]) <;> refine autoA ?_) | (refine WK.drawF (ops := #[_, _, _, _, _, _, _, _, _, _, _, _]) [dq 0 0, dq 0 2, dq 0 2, dq 0 2, dq 0 0, dq 0 3, dq 0 3, dq 0 3, dm, dm, dm, dm] mixed (by kernel_rfl) ?_; refine autoA ?_) | (refine WK.draw (ops := #[_, _, _, _, _, _, _]) [dq 0 0, dq 0 1, dq 0 0, dm, dm, dm, dq 0 0] mixed (by kernel_rfl) ?_; refine autoA ?_))
  all_goals try exact trivial
  all_goals first | exact cut_none _ | (refine finA (by first | (simp only [go_sem, seval, reduceCtorEq, encF_fold, encF_fold0, Fm.eta, encFs_fold1, encFs_fold2, encFs_fold3, secondF, secondC, *]; done) | (simp only [go_sem, seval, reduceCtorEq, encF_fold, encF_fold0, Fm.eta, encFs_fold1, encFs_fold2, encFs_fold3, secondF, secondC, *]; rfl))) | (exfalso; simp_all; done)
end
end Go.Sx

set_option maxRecDepth 100000
set_option maxHeartbeats 4000000
set_option linter.unusedSimpArgs false
set_option linter.unusedVariables false
set_option linter.unnecessarySimpa false
namespace Go.Sx
open Go Go.Lg Go.Proofs
theorem b39 {gl : GL} : Body (C gl).P 39 Tryd.f39 (codeOf Tryd.f39) := ⟨Tryd.func39, by kernel_rfl, by kernel_rfl⟩
def simpleF (f : Fm) : Bool := if ((f.args.length : Int) == 0) = true then true else if ((f.args.length : Int) == 1) = true then !(oneF f).2 else true
def rule2 (f : Fm) : Option Fm := if (same2 f).2 = true then some (same2 f).1 else if (firstF f).2 = true then some (firstF f).1 else if (secondF f).2 = true then some (secondF f).1 else none
def mkF : Nat → Fm → Option Fm
  | 0, _ => none
  | n + 1, f => match f.args with
    | [] => some f
    | [_] => if (oneF f).2 = true then (if simpleF (oneF f).1 = true then some (oneF f).1 else mkF n (oneF f).1) else some f
    | _ => match rule2 f with
      | some g => if simpleF g = true then some g else mkF n g
      | none => some f
theorem okA_iff {o v : Int} {l : List Fm} : okA (.mk o v l) ↔ okNode 6 (.mk o v l) = true ∧ ∀ g ∈ l, okA g := by
  constructor
  · exact fun h => ⟨h _ (nodes_self _), fun g hg => okA_sub h hg⟩
  · rintro ⟨h1, h2⟩ x hx
    rw [nodesF] at hx
    rcases List.mem_cons.1 hx with rfl | hy
    · exact h1
    · clear h1 hx
      have hx := hy
      clear hy
      induction l with
      | nil => simp [nodesL] at hx
      | cons g l ih =>
        simp only [nodesL, List.mem_append] at hx
        rcases hx with hx | hx
        · exact h2 g List.mem_cons_self x hx
        · exact ih (fun g hg => h2 g (List.mem_cons_of_mem _ hg)) hx
theorem okA_const (b : Bool) : okA (constF b) := by
  cases b
  · exact okA_iff.2 ⟨rfl, fun g hg => by cases hg⟩
  · exact okA_iff.2 ⟨rfl, fun g hg => by cases hg⟩
theorem okA_un {k : Int} {g : Fm} (hk : k = 3 ∨ k = 9 ∨ k = 10) (h : okA g) : okA (.mk k 0 [g]) := by
  refine okA_iff.2 ⟨?_, fun x hx => by rw [List.mem_singleton] at hx; rw [hx]; exact h⟩
  rcases hk with rfl | rfl | rfl <;> rfl
theorem okA_arg0 {f g : Fm} (h : okA f) (hg : f.args = [g]) : okA g := by
  obtain ⟨o, v, l⟩ := f
  simp only [fm_args] at hg
  subst hg
  exact okA_sub h List.mem_cons_self
theorem okA_not {g : Fm} (h : okA g) : okA (notF g) := by
  unfold notF
  split
  · exact okA_const false
  · split
    · exact okA_const true
    · split
      · rename_i h3
        obtain ⟨x, hx⟩ := okA_op3 h (eq_of_beq h3)
        rw [(args1 hx).1]; exact okA_arg0 h hx
      · exact okA_un (.inl rfl) h
theorem okA_one {o v : Int} {g : Fm} (h : okA (.mk o v [g])) : okA (oneF (.mk o v [g])).1 := by
  have hg : okA g := okA_sub h List.mem_cons_self
  have ha : arg (.mk o v [g]) 0 = g := rfl
  unfold oneF
  simp only [ha]
  repeat' split
  all_goals first | exact h | exact hg | exact okA_not hg
theorem okA_pick {y : Bool} {a b : Fm} (ha : okA a) (hb : okA b) : okA (pickF y a b) := by unfold pickF; split <;> assumption
theorem okA_same2 {o v : Int} {a b : Fm} (h : okA (.mk o v [a, b])) : okA (same2 (.mk o v [a, b])).1 := by
  have ha : okA (arg (.mk o v [a, b]) 0) := okA_sub h List.mem_cons_self
  unfold same2
  repeat' split
  all_goals dsimp only
  all_goals first | exact h | exact ha | exact okA_const _
theorem okA_first {o v : Int} {a b : Fm} (h : okA (.mk o v [a, b])) : okA (firstF (.mk o v [a, b])).1 := by
  have ha : okA (arg (.mk o v [a, b]) 0) := okA_sub h List.mem_cons_self
  have hb : okA (arg (.mk o v [a, b]) 1) := okA_sub h (List.mem_cons_of_mem _ List.mem_cons_self)
  have h1 := fun k hk => okA_one (okA_un (k := k) hk hb)
  unfold firstF firstC
  repeat' split
  all_goals dsimp only
  all_goals first | exact h | exact ha | exact hb | exact okA_pick (by first | exact ha | exact hb | exact okA_const _) (by first | exact ha | exact hb | exact okA_const _ | exact okA_not hb) | exact h1 9 (by simp) | exact h1 10 (by simp)
theorem okA_second {o v : Int} {a b : Fm} (h : okA (.mk o v [a, b])) : okA (secondF (.mk o v [a, b])).1 := by
  have ha : okA (arg (.mk o v [a, b]) 0) := okA_sub h List.mem_cons_self
  have hb : okA (arg (.mk o v [a, b]) 1) := okA_sub h (List.mem_cons_of_mem _ List.mem_cons_self)
  have h1 := fun k hk => okA_one (okA_un (k := k) hk ha)
  unfold secondF secondC
  repeat' split
  all_goals dsimp only
  all_goals first | exact h | exact ha | exact hb | exact okA_not ha | exact okA_pick (by first | exact ha | exact hb | exact okA_const _) (by first | exact ha | exact hb | exact okA_const _ | exact okA_not ha) | exact h1 9 (by simp) | exact h1 10 (by simp)
def rulesL (b : Bool) : List AV := if b = true then [.fn 59 []] else [.fn 56 [], .fn 57 [], .fn 58 []]
theorem rulesL_ff : rulesL false = [.fn 56 [], .fn 57 [], .fn 58 []] := (rfl)
theorem rulesL_tt : rulesL true = [.fn 59 []] := (rfl)
theorem simple_false {f : Fm} (h : simpleF f = false) : f.args.length = 2 → False := by
  intro h2
  unfold simpleF at h
  rw [h2] at h
  cases h
section
variable {gl : GL}
theorem wsimple_ok (f : Fm) (hA : okA f) : PCall (C gl) 60 [encF f] (.bool (simpleF f)) := by
  refine pcallX (callX_of b60 (by simp [Tryd.ntmps60]) ?_) (by simp only [AllCl, cl_encF, and_true]) (.bool _)
  obtain ⟨o, v, l⟩ := f
  refine W.of ?_
  rw [Tryd.ntmps60]
  simp only [toK, codeOf, Tryd.f60, go_sem, seval, reduceCtorEq]
  have hl : l = [] ∨ (∃ g, l = [g]) ∨ 2 ≤ l.length := by
    match l with
    | [] => exact .inl rfl
    | [g] => exact .inr (.inl ⟨g, rfl⟩)
    | _ :: _ :: _ => exact .inr (.inr (by simp))
  rcases hl with rfl | ⟨g, rfl⟩ | hl
  · have H := trivial
    refine autoA ?_
    try exact trivial
    exact ⟨rfl, cut_none _⟩
  · have hg : okA g := okA_sub hA List.mem_cons_self
    have H := trivial
    refine autoA ?_
    try exact trivial
    exact ⟨rfl, cut_none _⟩
  · have h0 : ((l.length : Int) == 0) = false := by rw [beq_eq_false_iff_ne]; omega
    have h1 : ((l.length : Int) == 1) = false := by rw [beq_eq_false_iff_ne]; omega
    have H := And.intro @h0 @h1
    refine autoA ?_
    try exact trivial
    exact ⟨by simp only [simpleF, fm_args, h0, h1]; rfl, cut_none _⟩
instance wsimple_i (f : Fm) : Ctr (C gl) 60 [encF f] (okA f) (.bool (simpleF f)) := ⟨wsimple_ok f⟩
theorem wmake_ok (n : Nat) (f r : Fm) (hA : okA f) (hS : ShorF f) (hr : mkF n f = some r) : PCall (C gl) 39 [encF f] (encF r) := by
  refine pcallX (callX_of b39 (by simp [Tryd.ntmps39]) ?_) (by simp only [AllCl, cl_encF, and_true]) (by simp only [cl_encF])
  refine W.of ?_
  rw [Tryd.ntmps39]
  simp only [toK, codeOf, Tryd.f39, go_sem, seval, reduceCtorEq]
  have H := trivial
  refine autoA ?_
  try exact trivial
  refine WK.scope ?_
  simp only [toK, go_sem, seval, reduceCtorEq]
  have h3 := args012 hA
  obtain ⟨o, v, l⟩ := f
  simp only [fm_args] at h3
  rcases h3 with rfl | ⟨g, rfl⟩ | ⟨g, h, rfl⟩
  · have H := trivial
    refine autoA ?_
    try exact trivial
    have hb : ([] : List Fm).length = 2 → false = false := fun _ => rfl
    refine WK.block ?_
    refine WK.loopX [1, 2] [3] (fun s : Nat × Fm × Bool => [.list true (rulesL s.2.2)]) (fun s => (Sto.none.add (.box [.int .i64 s.2.1.op, .int .i64 s.2.1.var, .list false (encFs s.2.1.args)])).add (.box [.int .i64 0, .int .i64 0, .list true []])) (fun s => mkF s.1 s.2.1 = some r ∧ okA s.2.1 ∧ (s.2.1.args.length = 2 → s.2.2 = false)) (fun s => s.1) (n, _, false) (by decide) ⟨hr, hA, hb⟩ (by simp only [go_sem, seval, reduceCtorEq, rulesL_ff, rulesL_tt]) rfl ?_
    rintro ⟨m, ⟨o, v, l⟩, b⟩ ⟨hm, hA, hb⟩
    simp only at hm hA hb
    have h3 := args012 hA
    simp only [fm_args] at h3
    cases m with
    | zero => cases hm
    | succ m =>
    rcases h3 with rfl | ⟨g, rfl⟩ | ⟨g, h, rfl⟩
    · simp only [mkF, fm_args, Option.some.injEq] at hm
      subst hm
      have H := trivial
      refine autoA ?_
      try exact trivial
      first | exact cut_none _ | exact finA
    · have hg : okA g := okA_sub hA List.mem_cons_self
      have hA1 := okA_one hA
      simp only [mkF, fm_args] at hm
      have H := trivial
      refine autoA ?_
      try exact trivial
      refine rangeAI (1) [1, 2, 3, 23] [] (fun i => []) (fun i => (Sto.none.add (.box [.int .i64 o, .int .i64 v, .list false (encFs [g])])).add (.box [.int .i64 0, .int .i64 0, .list true []])) (fun i => 0 < i → (oneF (.mk o v [g])).2 = false) ?_ ?_
      · intro i hi hI
        obtain rfl : i = 0 := by omega
        cases ho : (oneF (.mk o v [g])).2 with
        | true =>
          rw [if_pos ho] at hm
          cases hs : simpleF (oneF (.mk o v [g])).1 with
          | true =>
            rw [if_pos hs] at hm
            cases hm
            have H := And.intro @ho @hs
            refine autoA ?_
            try exact trivial
            first | exact cut_none _ | exact finA
          | false =>
            rw [hs, if_neg Bool.false_ne_true] at hm
            have H := And.intro @ho @hs
            refine autoA ?_
            try exact trivial
            exact ⟨(m, (oneF (.mk o v [g])).1, true), ⟨hm, hA1, fun h => (simple_false hs h).elim⟩, Nat.lt_succ_self m, by simp only [go_sem, seval, reduceCtorEq, rulesL_tt], cutA⟩
        | false =>
          have H := @ho
          refine autoA ?_
          try exact trivial
          exact cutA
      · intro hI
        rw [hI Nat.one_pos, if_neg Bool.false_ne_true] at hm
        cases hm
        have H := trivial
        refine autoA ?_
        try exact trivial
        first | exact cut_none _ | exact finA
    · obtain rfl := hb rfl
      have hg : okA g := okA_sub hA List.mem_cons_self
      have hh : okA h := okA_sub hA (List.mem_cons_of_mem _ List.mem_cons_self)
      have hsg := shor_okA g hg
      have i1 : Ctr (C gl) 56 [encF (.mk o v [g, h])] True (.tup [encF (same2 (.mk o v [g, h])).1, .bool (same2 (.mk o v [g, h])).2]) := ⟨fun _ => wsame_ok o v g h hsg⟩
      have i2 : Ctr (C gl) 57 [encF (.mk o v [g, h])] True (.tup [encF (firstF (.mk o v [g, h])).1, .bool (firstF (.mk o v [g, h])).2]) := ⟨fun _ => wfirst_ok o v g h hh⟩
      have i3 : Ctr (C gl) 58 [encF (.mk o v [g, h])] True (.tup [encF (secondF (.mk o v [g, h])).1, .bool (secondF (.mk o v [g, h])).2]) := ⟨fun _ => wsecond_ok o v g h hg⟩
      have k1 := okA_same2 hA
      have k2 := okA_first hA
      have k3 := okA_second hA
      simp only [mkF, fm_args] at hm
      have H := @rulesL_ff
      refine autoA ?_
      try exact trivial
      refine rangeAI (3) [1, 2, 3, 23] [] (fun i => []) (fun i => (Sto.none.add (.box [.int .i64 o, .int .i64 v, .list false (encFs [g, h])])).add (.box [.int .i64 0, .int .i64 0, .list true []])) (fun i => (0 < i → (same2 (.mk o v [g, h])).2 = false) ∧ (1 < i → (firstF (.mk o v [g, h])).2 = false) ∧ (2 < i → (secondF (.mk o v [g, h])).2 = false)) ?_ ?_
      · rintro i hi ⟨hI1, hI2, hI3⟩
        match i, hi with
        | 0, _ =>
          cases ho : (same2 (.mk o v [g, h])).2 with
          | true =>
            have hr2 : rule2 (.mk o v [g, h]) = some (same2 (.mk o v [g, h])).1 := by unfold rule2; rw [ho, if_pos rfl]
            rw [hr2] at hm
            simp only at hm
            cases hs : simpleF (same2 (.mk o v [g, h])).1 with
            | true =>
              rw [if_pos hs] at hm
              cases hm
              have H := And.intro @ho @hs
              refine autoA ?_
              try exact trivial
              first | exact cut_none _ | exact finA
            | false =>
              rw [hs, if_neg Bool.false_ne_true] at hm
              have H := And.intro @ho @hs
              refine autoA ?_
              try exact trivial
              exact ⟨(m, (same2 (.mk o v [g, h])).1, false), ⟨hm, okA_same2 hA, fun h => rfl⟩, Nat.lt_succ_self m, by simp only [go_sem, seval, reduceCtorEq, rulesL_ff], cutA⟩
          | false =>
            have H := @ho
            refine autoA ?_
            try exact trivial
            try exact cutA
        | 1, _ =>
          have n1 := hI1 (by omega)
          cases ho : (firstF (.mk o v [g, h])).2 with
          | true =>
            have hr2 : rule2 (.mk o v [g, h]) = some (firstF (.mk o v [g, h])).1 := by unfold rule2; rw [n1, ho, if_neg Bool.false_ne_true, if_pos rfl]
            rw [hr2] at hm
            simp only at hm
            cases hs : simpleF (firstF (.mk o v [g, h])).1 with
            | true =>
              rw [if_pos hs] at hm
              cases hm
              have H := And.intro @ho @hs
              refine autoA ?_
              try exact trivial
              first | exact cut_none _ | exact finA
            | false =>
              rw [hs, if_neg Bool.false_ne_true] at hm
              have H := And.intro @ho @hs
              refine autoA ?_
              try exact trivial
              exact ⟨(m, (firstF (.mk o v [g, h])).1, false), ⟨hm, okA_first hA, fun h => rfl⟩, Nat.lt_succ_self m, by simp only [go_sem, seval, reduceCtorEq, rulesL_ff], cutA⟩
          | false =>
            have H := And.intro @ho @n1
            refine autoA ?_
            try exact trivial
            try exact cutA
        | 2, _ =>
          have n1 := hI1 (by omega)
          have n2 := hI2 (by omega)
          cases ho : (secondF (.mk o v [g, h])).2 with
          | true =>
            have hr2 : rule2 (.mk o v [g, h]) = some (secondF (.mk o v [g, h])).1 := by unfold rule2; rw [n1, n2, ho, if_neg Bool.false_ne_true, if_neg Bool.false_ne_true, if_pos rfl]
            rw [hr2] at hm
            simp only at hm
            cases hs : simpleF (secondF (.mk o v [g, h])).1 with
            | true =>
              rw [if_pos hs] at hm
              cases hm
              have H := And.intro @ho @hs
              refine autoA ?_
              try exact trivial
              first | exact cut_none _ | exact finA
            | false =>
              rw [hs, if_neg Bool.false_ne_true] at hm
              have H := And.intro @ho @hs
              refine autoA ?_
              try exact trivial
              exact ⟨(m, (secondF (.mk o v [g, h])).1, false), ⟨hm, okA_second hA, fun h => rfl⟩, Nat.lt_succ_self m, by simp only [go_sem, seval, reduceCtorEq, rulesL_ff], cutA⟩
          | false =>
            have H := And.intro @ho (And.intro @n1 @n2)
            refine autoA ?_
            try exact trivial
            try exact cutA
      · rintro ⟨hI1, hI2, hI3⟩
        have hr2 : rule2 (.mk o v [g, h]) = none := by unfold rule2; rw [hI1 (by omega), hI2 (by omega), hI3 (by omega)]; rfl
        rw [hr2] at hm
        cases hm
        have H := trivial
        refine autoA ?_
        try exact trivial
        first | exact cut_none _ | exact finA
  · have H := trivial
    refine autoA ?_
    try exact trivial
    have hb : ([g] : List Fm).length = 2 → true = false := fun h => by cases h
    refine WK.block ?_
    refine WK.loopX [1, 2] [3] (fun s : Nat × Fm × Bool => [.list true (rulesL s.2.2)]) (fun s => (Sto.none.add (.box [.int .i64 s.2.1.op, .int .i64 s.2.1.var, .list false (encFs s.2.1.args)])).add (.box [.int .i64 0, .int .i64 0, .list true []])) (fun s => mkF s.1 s.2.1 = some r ∧ okA s.2.1 ∧ (s.2.1.args.length = 2 → s.2.2 = false)) (fun s => s.1) (n, _, true) (by decide) ⟨hr, hA, hb⟩ (by simp only [go_sem, seval, reduceCtorEq, rulesL_ff, rulesL_tt]) rfl ?_
    rintro ⟨m, ⟨o, v, l⟩, b⟩ ⟨hm, hA, hb⟩
    simp only at hm hA hb
    have h3 := args012 hA
    simp only [fm_args] at h3
    cases m with
    | zero => cases hm
    | succ m =>
    rcases h3 with rfl | ⟨g, rfl⟩ | ⟨g, h, rfl⟩
    · simp only [mkF, fm_args, Option.some.injEq] at hm
      subst hm
      have H := trivial
      refine autoA ?_
      try exact trivial
      first | exact cut_none _ | exact finA
    · have hg : okA g := okA_sub hA List.mem_cons_self
      have hA1 := okA_one hA
      simp only [mkF, fm_args] at hm
      have H := trivial
      refine autoA ?_
      try exact trivial
      refine rangeAI (1) [1, 2, 3, 23] [] (fun i => []) (fun i => (Sto.none.add (.box [.int .i64 o, .int .i64 v, .list false (encFs [g])])).add (.box [.int .i64 0, .int .i64 0, .list true []])) (fun i => 0 < i → (oneF (.mk o v [g])).2 = false) ?_ ?_
      · intro i hi hI
        obtain rfl : i = 0 := by omega
        cases ho : (oneF (.mk o v [g])).2 with
        | true =>
          rw [if_pos ho] at hm
          cases hs : simpleF (oneF (.mk o v [g])).1 with
          | true =>
            rw [if_pos hs] at hm
            cases hm
            have H := And.intro @ho @hs
            refine autoA ?_
            try exact trivial
            first | exact cut_none _ | exact finA
          | false =>
            rw [hs, if_neg Bool.false_ne_true] at hm
            have H := And.intro @ho @hs
            refine autoA ?_
            try exact trivial
            exact ⟨(m, (oneF (.mk o v [g])).1, true), ⟨hm, hA1, fun h => (simple_false hs h).elim⟩, Nat.lt_succ_self m, by simp only [go_sem, seval, reduceCtorEq, rulesL_tt], cutA⟩
        | false =>
          have H := @ho
          refine autoA ?_
          try exact trivial
          exact cutA
      · intro hI
        rw [hI Nat.one_pos, if_neg Bool.false_ne_true] at hm
        cases hm
        have H := trivial
        refine autoA ?_
        try exact trivial
        first | exact cut_none _ | exact finA
    · obtain rfl := hb rfl
      have hg : okA g := okA_sub hA List.mem_cons_self
      have hh : okA h := okA_sub hA (List.mem_cons_of_mem _ List.mem_cons_self)
      have hsg := shor_okA g hg
      have i1 : Ctr (C gl) 56 [encF (.mk o v [g, h])] True (.tup [encF (same2 (.mk o v [g, h])).1, .bool (same2 (.mk o v [g, h])).2]) := ⟨fun _ => wsame_ok o v g h hsg⟩
      have i2 : Ctr (C gl) 57 [encF (.mk o v [g, h])] True (.tup [encF (firstF (.mk o v [g, h])).1, .bool (firstF (.mk o v [g, h])).2]) := ⟨fun _ => wfirst_ok o v g h hh⟩
      have i3 : Ctr (C gl) 58 [encF (.mk o v [g, h])] True (.tup [encF (secondF (.mk o v [g, h])).1, .bool (secondF (.mk o v [g, h])).2]) := ⟨fun _ => wsecond_ok o v g h hg⟩
      have k1 := okA_same2 hA
      have k2 := okA_first hA
      have k3 := okA_second hA
      simp only [mkF, fm_args] at hm
      have H := @rulesL_ff
      refine autoA ?_
      try exact trivial
      refine rangeAI (3) [1, 2, 3, 23] [] (fun i => []) (fun i => (Sto.none.add (.box [.int .i64 o, .int .i64 v, .list false (encFs [g, h])])).add (.box [.int .i64 0, .int .i64 0, .list true []])) (fun i => (0 < i → (same2 (.mk o v [g, h])).2 = false) ∧ (1 < i → (firstF (.mk o v [g, h])).2 = false) ∧ (2 < i → (secondF (.mk o v [g, h])).2 = false)) ?_ ?_
      · rintro i hi ⟨hI1, hI2, hI3⟩
        match i, hi with
        | 0, _ =>
          cases ho : (same2 (.mk o v [g, h])).2 with
          | true =>
            have hr2 : rule2 (.mk o v [g, h]) = some (same2 (.mk o v [g, h])).1 := by unfold rule2; rw [ho, if_pos rfl]
            rw [hr2] at hm
            simp only at hm
            cases hs : simpleF (same2 (.mk o v [g, h])).1 with
            | true =>
              rw [if_pos hs] at hm
              cases hm
              have H := And.intro @ho @hs
              refine autoA ?_
              try exact trivial
              first | exact cut_none _ | exact finA
            | false =>
              rw [hs, if_neg Bool.false_ne_true] at hm
              have H := And.intro @ho @hs
              refine autoA ?_
              try exact trivial
              exact ⟨(m, (same2 (.mk o v [g, h])).1, false), ⟨hm, okA_same2 hA, fun h => rfl⟩, Nat.lt_succ_self m, by simp only [go_sem, seval, reduceCtorEq, rulesL_ff], cutA⟩
          | false =>
            have H := @ho
            refine autoA ?_
            try exact trivial
            try exact cutA
        | 1, _ =>
          have n1 := hI1 (by omega)
          cases ho : (firstF (.mk o v [g, h])).2 with
          | true =>
            have hr2 : rule2 (.mk o v [g, h]) = some (firstF (.mk o v [g, h])).1 := by unfold rule2; rw [n1, ho, if_neg Bool.false_ne_true, if_pos rfl]
            rw [hr2] at hm
            simp only at hm
            cases hs : simpleF (firstF (.mk o v [g, h])).1 with
            | true =>
              rw [if_pos hs] at hm
              cases hm
              have H := And.intro @ho @hs
              refine autoA ?_
              try exact trivial
              first | exact cut_none _ | exact finA
            | false =>
              rw [hs, if_neg Bool.false_ne_true] at hm
              have H := And.intro @ho @hs
              refine autoA ?_
              try exact trivial
              exact ⟨(m, (firstF (.mk o v [g, h])).1, false), ⟨hm, okA_first hA, fun h => rfl⟩, Nat.lt_succ_self m, by simp only [go_sem, seval, reduceCtorEq, rulesL_ff], cutA⟩
          | false =>
            have H := And.intro @ho @n1
            refine autoA ?_
            try exact trivial
            try exact cutA
        | 2, _ =>
          have n1 := hI1 (by omega)
          have n2 := hI2 (by omega)
          cases ho : (secondF (.mk o v [g, h])).2 with
          | true =>
            have hr2 : rule2 (.mk o v [g, h]) = some (secondF (.mk o v [g, h])).1 := by unfold rule2; rw [n1, n2, ho, if_neg Bool.false_ne_true, if_neg Bool.false_ne_true, if_pos rfl]
            rw [hr2] at hm
            simp only at hm
            cases hs : simpleF (secondF (.mk o v [g, h])).1 with
            | true =>
              rw [if_pos hs] at hm
              cases hm
              have H := And.intro @ho @hs
              refine autoA ?_
              try exact trivial
              first | exact cut_none _ | exact finA
            | false =>
              rw [hs, if_neg Bool.false_ne_true] at hm
              have H := And.intro @ho @hs
              refine autoA ?_
              try exact trivial
              exact ⟨(m, (secondF (.mk o v [g, h])).1, false), ⟨hm, okA_second hA, fun h => rfl⟩, Nat.lt_succ_self m, by simp only [go_sem, seval, reduceCtorEq, rulesL_ff], cutA⟩
          | false =>
            have H := And.intro @ho (And.intro @n1 @n2)
            refine autoA ?_
            try exact trivial
            try exact cutA
      · rintro ⟨hI1, hI2, hI3⟩
        have hr2 : rule2 (.mk o v [g, h]) = none := by unfold rule2; rw [hI1 (by omega), hI2 (by omega), hI3 (by omega)]; rfl
        rw [hr2] at hm
        cases hm
        have H := trivial
        refine autoA ?_
        try exact trivial
        first | exact cut_none _ | exact finA
  · have H := trivial
    refine autoA ?_
    try exact trivial
    have hb : ([g, h] : List Fm).length = 2 → false = false := fun _ => rfl
    refine WK.block ?_
    refine WK.loopX [1, 2] [3] (fun s : Nat × Fm × Bool => [.list true (rulesL s.2.2)]) (fun s => (Sto.none.add (.box [.int .i64 s.2.1.op, .int .i64 s.2.1.var, .list false (encFs s.2.1.args)])).add (.box [.int .i64 0, .int .i64 0, .list true []])) (fun s => mkF s.1 s.2.1 = some r ∧ okA s.2.1 ∧ (s.2.1.args.length = 2 → s.2.2 = false)) (fun s => s.1) (n, _, false) (by decide) ⟨hr, hA, hb⟩ (by simp only [go_sem, seval, reduceCtorEq, rulesL_ff, rulesL_tt]) rfl ?_
    rintro ⟨m, ⟨o, v, l⟩, b⟩ ⟨hm, hA, hb⟩
    simp only at hm hA hb
    have h3 := args012 hA
    simp only [fm_args] at h3
    cases m with
    | zero => cases hm
    | succ m =>
    rcases h3 with rfl | ⟨g, rfl⟩ | ⟨g, h, rfl⟩
    · simp only [mkF, fm_args, Option.some.injEq] at hm
      subst hm
      have H := trivial
      refine autoA ?_
      try exact trivial
      first | exact cut_none _ | exact finA
    · have hg : okA g := okA_sub hA List.mem_cons_self
      have hA1 := okA_one hA
      simp only [mkF, fm_args] at hm
      have H := trivial
      refine autoA ?_
      try exact trivial
      refine rangeAI (1) [1, 2, 3, 23] [] (fun i => []) (fun i => (Sto.none.add (.box [.int .i64 o, .int .i64 v, .list false (encFs [g])])).add (.box [.int .i64 0, .int .i64 0, .list true []])) (fun i => 0 < i → (oneF (.mk o v [g])).2 = false) ?_ ?_
      · intro i hi hI
        obtain rfl : i = 0 := by omega
        cases ho : (oneF (.mk o v [g])).2 with
        | true =>
          rw [if_pos ho] at hm
          cases hs : simpleF (oneF (.mk o v [g])).1 with
          | true =>
            rw [if_pos hs] at hm
            cases hm
            have H := And.intro @ho @hs
            refine autoA ?_
            try exact trivial
            first | exact cut_none _ | exact finA
          | false =>
            rw [hs, if_neg Bool.false_ne_true] at hm
            have H := And.intro @ho @hs
            refine autoA ?_
            try exact trivial
            exact ⟨(m, (oneF (.mk o v [g])).1, true), ⟨hm, hA1, fun h => (simple_false hs h).elim⟩, Nat.lt_succ_self m, by simp only [go_sem, seval, reduceCtorEq, rulesL_tt], cutA⟩
        | false =>
          have H := @ho
          refine autoA ?_
          try exact trivial
          exact cutA
      · intro hI
        rw [hI Nat.one_pos, if_neg Bool.false_ne_true] at hm
        cases hm
        have H := trivial
        refine autoA ?_
        try exact trivial
        first | exact cut_none _ | exact finA
    · obtain rfl := hb rfl
      have hg : okA g := okA_sub hA List.mem_cons_self
      have hh : okA h := okA_sub hA (List.mem_cons_of_mem _ List.mem_cons_self)
      have hsg := shor_okA g hg
      have i1 : Ctr (C gl) 56 [encF (.mk o v [g, h])] True (.tup [encF (same2 (.mk o v [g, h])).1, .bool (same2 (.mk o v [g, h])).2]) := ⟨fun _ => wsame_ok o v g h hsg⟩
      have i2 : Ctr (C gl) 57 [encF (.mk o v [g, h])] True (.tup [encF (firstF (.mk o v [g, h])).1, .bool (firstF (.mk o v [g, h])).2]) := ⟨fun _ => wfirst_ok o v g h hh⟩
      have i3 : Ctr (C gl) 58 [encF (.mk o v [g, h])] True (.tup [encF (secondF (.mk o v [g, h])).1, .bool (secondF (.mk o v [g, h])).2]) := ⟨fun _ => wsecond_ok o v g h hg⟩
      have k1 := okA_same2 hA
      have k2 := okA_first hA
      have k3 := okA_second hA
      simp only [mkF, fm_args] at hm
      have H := @rulesL_ff
      refine autoA ?_
      try exact trivial
      refine rangeAI (3) [1, 2, 3, 23] [] (fun i => []) (fun i => (Sto.none.add (.box [.int .i64 o, .int .i64 v, .list false (encFs [g, h])])).add (.box [.int .i64 0, .int .i64 0, .list true []])) (fun i => (0 < i → (same2 (.mk o v [g, h])).2 = false) ∧ (1 < i → (firstF (.mk o v [g, h])).2 = false) ∧ (2 < i → (secondF (.mk o v [g, h])).2 = false)) ?_ ?_
      · rintro i hi ⟨hI1, hI2, hI3⟩
        match i, hi with
        | 0, _ =>
          cases ho : (same2 (.mk o v [g, h])).2 with
          | true =>
            have hr2 : rule2 (.mk o v [g, h]) = some (same2 (.mk o v [g, h])).1 := by unfold rule2; rw [ho, if_pos rfl]
            rw [hr2] at hm
            simp only at hm
            cases hs : simpleF (same2 (.mk o v [g, h])).1 with
            | true =>
              rw [if_pos hs] at hm
              cases hm
              have H := And.intro @ho @hs
              refine autoA ?_
              try exact trivial
              first | exact cut_none _ | exact finA
            | false =>
              rw [hs, if_neg Bool.false_ne_true] at hm
              have H := And.intro @ho @hs
              refine autoA ?_
              try exact trivial
              exact ⟨(m, (same2 (.mk o v [g, h])).1, false), ⟨hm, okA_same2 hA, fun h => rfl⟩, Nat.lt_succ_self m, by simp only [go_sem, seval, reduceCtorEq, rulesL_ff], cutA⟩
          | false =>
            have H := @ho
            refine autoA ?_
            try exact trivial
            try exact cutA
        | 1, _ =>
          have n1 := hI1 (by omega)
          cases ho : (firstF (.mk o v [g, h])).2 with
          | true =>
            have hr2 : rule2 (.mk o v [g, h]) = some (firstF (.mk o v [g, h])).1 := by unfold rule2; rw [n1, ho, if_neg Bool.false_ne_true, if_pos rfl]
            rw [hr2] at hm
            simp only at hm
            cases hs : simpleF (firstF (.mk o v [g, h])).1 with
            | true =>
              rw [if_pos hs] at hm
              cases hm
              have H := And.intro @ho @hs
              refine autoA ?_
              try exact trivial
              first | exact cut_none _ | exact finA
            | false =>
              rw [hs, if_neg Bool.false_ne_true] at hm
              have H := And.intro @ho @hs
              refine autoA ?_
              try exact trivial
              exact ⟨(m, (firstF (.mk o v [g, h])).1, false), ⟨hm, okA_first hA, fun h => rfl⟩, Nat.lt_succ_self m, by simp only [go_sem, seval, reduceCtorEq, rulesL_ff], cutA⟩
          | false =>
            have H := And.intro @ho @n1
            refine autoA ?_
            try exact trivial
            try exact cutA
        | 2, _ =>
          have n1 := hI1 (by omega)
          have n2 := hI2 (by omega)
          cases ho : (secondF (.mk o v [g, h])).2 with
          | true =>
            have hr2 : rule2 (.mk o v [g, h]) = some (secondF (.mk o v [g, h])).1 := by unfold rule2; rw [n1, n2, ho, if_neg Bool.false_ne_true, if_neg Bool.false_ne_true, if_pos rfl]
            rw [hr2] at hm
            simp only at hm
            cases hs : simpleF (secondF (.mk o v [g, h])).1 with
            | true =>
              rw [if_pos hs] at hm
              cases hm
              have H := And.intro @ho @hs
              refine autoA ?_
              try exact trivial
              first | exact cut_none _ | exact finA
            | false =>
              rw [hs, if_neg Bool.false_ne_true] at hm
              have H := And.intro @ho @hs
              refine autoA ?_
              try exact trivial
              exact ⟨(m, (secondF (.mk o v [g, h])).1, false), ⟨hm, okA_second hA, fun h => rfl⟩, Nat.lt_succ_self m, by simp only [go_sem, seval, reduceCtorEq, rulesL_ff], cutA⟩
          | false =>
            have H := And.intro @ho (And.intro @n1 @n2)
            refine autoA ?_
            try exact trivial
            try exact cutA
      · rintro ⟨hI1, hI2, hI3⟩
        have hr2 : rule2 (.mk o v [g, h]) = none := by unfold rule2; rw [hI1 (by omega), hI2 (by omega), hI3 (by omega)]; rfl
        rw [hr2] at hm
        cases hm
        have H := trivial
        refine autoA ?_
        try exact trivial
        first | exact cut_none _ | exact finA
end
end Go.Sx
