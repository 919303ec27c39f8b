import Derived.Test.YtndchmmclfidgaaDoorTrB
import Derived.Test.YtndchmmclfidgaaDoorLgAv
set_option maxRecDepth 100000
set_option maxHeartbeats 4000000
set_option linter.unusedSimpArgs false
set_option linter.unusedVariables false
set_option linter.unnecessarySimpa false
namespace Go.Sx
open Go Go.Lg Go.Proofs
theorem b176 {gl : GL} : Body (C gl).P 176 Tryd.f176 (codeOf Tryd.f176) := ⟨Tryd.func176, by kernel_rfl, by kernel_rfl⟩
def simpleF (f : Fm) : Bool := if ((f.args.length : Int) == 0) = true then true else if ((f.args.length : Int) == 1) = true then !(oneF f).2 else true
def rule2 (f : Fm) : Option Fm := if (same2 f).2 = true then some (same2 f).1 else if (firstF f).2 = true then some (firstF f).1 else if (secondF f).2 = true then some (secondF f).1 else none
def mkF : Nat → Fm → Option Fm
  | 0, _ => none
  | n + 1, f => match f.args with
    | [] => some f
    | [_] => if (oneF f).2 = true then (if simpleF (oneF f).1 = true then some (oneF f).1 else mkF n (oneF f).1) else some f
    | _ => match rule2 f with
      | some g => if simpleF g = true then some g else mkF n g
      | none => some f
theorem okA_iff {o v : Int} {l : List Fm} : okA (.mk o v l) ↔ okNode 6 (.mk o v l) = true ∧ ∀ g ∈ l, okA g := by
  constructor
  · exact fun h => ⟨h _ (nodes_self _), fun g hg => okA_sub h hg⟩
  · rintro ⟨h1, h2⟩ x hx
    rw [nodesF] at hx
    rcases List.mem_cons.1 hx with rfl | hy
    · exact h1
    · clear h1 hx
      have hx := hy
      clear hy
      induction l with
      | nil => simp [nodesL] at hx
      | cons g l ih =>
        simp only [nodesL, List.mem_append] at hx
        rcases hx with hx | hx
        · exact h2 g List.mem_cons_self x hx
        · exact ih (fun g hg => h2 g (List.mem_cons_of_mem _ hg)) hx
theorem okA_const (b : Bool) : okA (constF b) := by
  cases b
  · exact okA_iff.2 ⟨rfl, fun g hg => by cases hg⟩
  · exact okA_iff.2 ⟨rfl, fun g hg => by cases hg⟩
theorem okA_un {k : Int} {g : Fm} (hk : k = 3 ∨ k = 9 ∨ k = 10) (h : okA g) : okA (.mk k 0 [g]) := by
  refine okA_iff.2 ⟨?_, fun x hx => by rw [List.mem_singleton] at hx; rw [hx]; exact h⟩
  rcases hk with rfl | rfl | rfl <;> rfl
theorem okA_arg0 {f g : Fm} (h : okA f) (hg : f.args = [g]) : okA g := by
  obtain ⟨o, v, l⟩ := f
  simp only [fm_args] at hg
  subst hg
  exact okA_sub h List.mem_cons_self
theorem okA_not {g : Fm} (h : okA g) : okA (notF g) := by
  unfold notF
  split
  · exact okA_const false
  · split
    · exact okA_const true
    · split
      · rename_i h3
        obtain ⟨x, hx⟩ := okA_op3 h (eq_of_beq h3)
        rw [(args1 hx).1]; exact okA_arg0 h hx
      · exact okA_un (.inl rfl) h
theorem okA_one {o v : Int} {g : Fm} (h : okA (.mk o v [g])) : okA (oneF (.mk o v [g])).1 := by
  have hg : okA g := okA_sub h List.mem_cons_self
  have ha : arg (.mk o v [g]) 0 = g := rfl
  unfold oneF
  simp only [ha]
  repeat' split
  all_goals first | exact h | exact hg | exact okA_not hg
theorem okA_pick {y : Bool} {a b : Fm} (ha : okA a) (hb : okA b) : okA (pickF y a b) := by unfold pickF; split <;> assumption
theorem okA_same2 {o v : Int} {a b : Fm} (h : okA (.mk o v [a, b])) : okA (same2 (.mk o v [a, b])).1 := by
  have ha : okA (arg (.mk o v [a, b]) 0) := okA_sub h List.mem_cons_self
  unfold same2
  repeat' split
  all_goals dsimp only
  all_goals first | exact h | exact ha | exact okA_const _
theorem okA_first {o v : Int} {a b : Fm} (h : okA (.mk o v [a, b])) : okA (firstF (.mk o v [a, b])).1 := by
  have ha : okA (arg (.mk o v [a, b]) 0) := okA_sub h List.mem_cons_self
  have hb : okA (arg (.mk o v [a, b]) 1) := okA_sub h (List.mem_cons_of_mem _ List.mem_cons_self)
  have h1 := fun k hk => okA_one (okA_un (k := k) hk hb)
  unfold firstF firstC
  repeat' split
  all_goals dsimp only
  all_goals first | exact h | exact ha | exact hb | exact okA_pick (by first | exact ha | exact hb | exact okA_const _) (by first | exact ha | exact hb | exact okA_const _ | exact okA_not hb) | exact h1 9 (by simp) | exact h1 10 (by simp)
theorem okA_second {o v : Int} {a b : Fm} (h : okA (.mk o v [a, b])) : okA (secondF (.mk o v [a, b])).1 := by
  have ha : okA (arg (.mk o v [a, b]) 0) := okA_sub h List.mem_cons_self
  have hb : okA (arg (.mk o v [a, b]) 1) := okA_sub h (List.mem_cons_of_mem _ List.mem_cons_self)
  have h1 := fun k hk => okA_one (okA_un (k := k) hk ha)
  unfold secondF secondC
  repeat' split
  all_goals dsimp only
  all_goals first | exact h | exact ha | exact hb | exact okA_not ha | exact okA_pick (by first | exact ha | exact hb | exact okA_const _) (by first | exact ha | exact hb | exact okA_const _ | exact okA_not ha) | exact h1 9 (by simp) | exact h1 10 (by simp)
theorem args012 {f : Fm} (h : okA f) : f.args = [] ∨ (∃ g, f.args = [g]) ∨ ∃ g h, f.args = [g, h] := by
  have hok := h f (by cases f; exact nodes_self _)
  obtain ⟨o, v, l⟩ := f
  rw [okNode_eq] at hok
  simp only [Bool.and_eq_true] at hok
  obtain ⟨⟨⟨ho1, ho2⟩, hal⟩, hv⟩ := hok
  replace ho1 := of_decide_eq_true ho1
  replace ho2 := of_decide_eq_true ho2
  replace hal := of_decide_eq_true hal
  simp only [fm_args]
  match l with
  | [] => exact .inl rfl
  | [g] => exact .inr (.inl ⟨g, rfl⟩)
  | [g, h] => exact .inr (.inr ⟨g, h, rfl⟩)
  | _ :: _ :: _ :: l =>
    rcases arL_nat o.toNat (by omega) with h | h | h <;> (rw [h] at hal; simp only [List.length_cons] at hal; omega)
def rulesL (b : Bool) : List AV := if b = true then [.fn 204 []] else [.fn 201 [], .fn 202 [], .fn 203 []]
theorem rulesL_ff : rulesL false = [.fn 201 [], .fn 202 [], .fn 203 []] := (rfl)
theorem rulesL_tt : rulesL true = [.fn 204 []] := (rfl)
theorem shor_okA (f : Fm) : okA f → ShorF f := by
  induction f using Fm.ind with
  | h o v l ih =>
    intro h
    have ih' := fun g hg => ih g hg (okA_sub h hg)
    have h3 := args012 h
    simp only [fm_args] at h3
    simp only [ShorF]
    rcases h3 with rfl | ⟨g, rfl⟩ | ⟨g, h', rfl⟩
    · exact ⟨by simp, trivial⟩
    · exact ⟨by simp, ih' g (by simp), trivial⟩
    · exact ⟨by simp, ih' g (by simp), ih' h' (by simp), trivial⟩
theorem simple_false {f : Fm} (h : simpleF f = false) : f.args.length = 2 → False := by
  intro h2
  unfold simpleF at h
  rw [h2] at h
  cases h
section
variable {gl : GL}
theorem wsimple_ok (f : Fm) (hA : okA f) : PCall (C gl) 205 [encF f] (.bool (simpleF f)) := by
  refine pcallX (callX_of b205 (by simp [Tryd.ntmps205]) ?_) (by simp only [AllCl, cl_encF, and_true]) (.bool _)
  obtain ⟨o, v, l⟩ := f
  refine W.of ?_
  rw [Tryd.ntmps205]
  simp only [toK, codeOf, Tryd.f205, go_sem, seval, reduceCtorEq]
  have hl : l = [] ∨ (∃ g, l = [g]) ∨ 2 ≤ l.length := by
    match l with
    | [] => exact .inl rfl
    | [g] => exact .inr (.inl ⟨g, rfl⟩)
    | _ :: _ :: _ => exact .inr (.inr (by simp))
  rcases hl with rfl | ⟨g, rfl⟩ | hl
  · have H := trivial
    refine autoA ?_
    try exact trivial
    exact ⟨rfl, cut_none _⟩
  · have hg : okA g := okA_sub hA List.mem_cons_self
    have H := trivial
    refine autoA ?_
    try exact trivial
    exact ⟨rfl, cut_none _⟩
  · have h0 : ((l.length : Int) == 0) = false := by rw [beq_eq_false_iff_ne]; omega
    have h1 : ((l.length : Int) == 1) = false := by rw [beq_eq_false_iff_ne]; omega
    have H := And.intro @h0 @h1
    refine autoA ?_
    try exact trivial
    exact ⟨by simp only [simpleF, fm_args, h0, h1]; rfl, cut_none _⟩
instance wsimple_i (f : Fm) : Ctr (C gl) 205 [encF f] (okA f) (.bool (simpleF f)) := ⟨wsimple_ok f⟩
theorem wmake_ok (n : Nat) (f r : Fm) (hA : okA f) (hS : ShorF f) (hr : mkF n f = some r) : PCall (C gl) 176 [encF f] (encF r) := by
  refine pcallX (callX_of b176 (by simp [Tryd.ntmps176]) ?_) (by simp only [AllCl, cl_encF, and_true]) (by simp only [cl_encF])
  refine W.of ?_
  rw [Tryd.ntmps176]
  simp only [toK, codeOf, Tryd.f176, go_sem, seval, reduceCtorEq]
  have H := trivial
  refine autoA ?_
  try exact trivial
  refine WK.scope ?_
  simp only [toK, go_sem, seval, reduceCtorEq]
  have h3 := args012 hA
  obtain ⟨o, v, l⟩ := f
  simp only [fm_args] at h3
  rcases h3 with rfl | ⟨g, rfl⟩ | ⟨g, h, rfl⟩
  · have H := trivial
    refine autoA ?_
    try exact trivial
    have hb : ([] : List Fm).length = 2 → false = false := fun _ => rfl
    refine WK.block ?_
    refine WK.loopX [1, 2] [3] (fun s : Nat × Fm × Bool => [.list true (rulesL s.2.2)]) (fun s => (Sto.none.add (.box [.int .i64 s.2.1.op, .int .i64 s.2.1.var, .list false (encFs s.2.1.args)])).add (.box [.int .i64 0, .int .i64 0, .list true []])) (fun s => mkF s.1 s.2.1 = some r ∧ okA s.2.1 ∧ (s.2.1.args.length = 2 → s.2.2 = false)) (fun s => s.1) (n, _, false) (by decide) ⟨hr, hA, hb⟩ (by simp only [go_sem, seval, reduceCtorEq, rulesL_ff, rulesL_tt]) rfl ?_
    rintro ⟨m, ⟨o, v, l⟩, b⟩ ⟨hm, hA, hb⟩
    simp only at hm hA hb
    have h3 := args012 hA
    simp only [fm_args] at h3
    cases m with
    | zero => cases hm
    | succ m =>
    rcases h3 with rfl | ⟨g, rfl⟩ | ⟨g, h, rfl⟩
    · simp only [mkF, fm_args, Option.some.injEq] at hm
      subst hm
      have H := trivial
      refine autoA ?_
      try exact trivial
      first | exact cut_none _ | exact finA
    · have hg : okA g := okA_sub hA List.mem_cons_self
      have hA1 := okA_one hA
      simp only [mkF, fm_args] at hm
      have H := trivial
      refine autoA ?_
      try exact trivial
      refine rangeAI (1) [1, 2, 3, 23] [] (fun i => []) (fun i => (Sto.none.add (.box [.int .i64 o, .int .i64 v, .list false (encFs [g])])).add (.box [.int .i64 0, .int .i64 0, .list true []])) (fun i => 0 < i → (oneF (.mk o v [g])).2 = false) ?_ ?_
      · intro i hi hI
        obtain rfl : i = 0 := by omega
        cases ho : (oneF (.mk o v [g])).2 with
        | true =>
          rw [if_pos ho] at hm
          cases hs : simpleF (oneF (.mk o v [g])).1 with
          | true =>
            rw [if_pos hs] at hm
            cases hm
            have H := And.intro @ho @hs
            refine autoA ?_
            try exact trivial
            first | exact cut_none _ | exact finA
          | false =>
            rw [hs, if_neg Bool.false_ne_true] at hm
            have H := And.intro @ho @hs
            refine autoA ?_
            try exact trivial
            exact ⟨(m, (oneF (.mk o v [g])).1, true), ⟨hm, hA1, fun h => (simple_false hs h).elim⟩, Nat.lt_succ_self m, by simp only [go_sem, seval, reduceCtorEq, rulesL_tt], cutA⟩
        | false =>
          have H := @ho
          refine autoA ?_
          try exact trivial
          exact cutA
      · intro hI
        rw [hI Nat.one_pos, if_neg Bool.false_ne_true] at hm
        cases hm
        have H := trivial
        refine autoA ?_
        try exact trivial
        first | exact cut_none _ | exact finA
    · obtain rfl := hb rfl
      have hg : okA g := okA_sub hA List.mem_cons_self
      have hh : okA h := okA_sub hA (List.mem_cons_of_mem _ List.mem_cons_self)
      have hsg := shor_okA g hg
      have i1 : Ctr (C gl) 201 [encF (.mk o v [g, h])] True (.tup [encF (same2 (.mk o v [g, h])).1, .bool (same2 (.mk o v [g, h])).2]) := ⟨fun _ => wsame_ok o v g h hsg⟩
      have i2 : Ctr (C gl) 202 [encF (.mk o v [g, h])] True (.tup [encF (firstF (.mk o v [g, h])).1, .bool (firstF (.mk o v [g, h])).2]) := ⟨fun _ => wfirst_ok o v g h hh⟩
      have i3 : Ctr (C gl) 203 [encF (.mk o v [g, h])] True (.tup [encF (secondF (.mk o v [g, h])).1, .bool (secondF (.mk o v [g, h])).2]) := ⟨fun _ => wsecond_ok o v g h hg⟩
      have k1 := okA_same2 hA
      have k2 := okA_first hA
      have k3 := okA_second hA
      simp only [mkF, fm_args] at hm
      have H := @rulesL_ff
      refine autoA ?_
      try exact trivial
      refine rangeAI (3) [1, 2, 3, 23] [] (fun i => []) (fun i => (Sto.none.add (.box [.int .i64 o, .int .i64 v, .list false (encFs [g, h])])).add (.box [.int .i64 0, .int .i64 0, .list true []])) (fun i => (0 < i → (same2 (.mk o v [g, h])).2 = false) ∧ (1 < i → (firstF (.mk o v [g, h])).2 = false) ∧ (2 < i → (secondF (.mk o v [g, h])).2 = false)) ?_ ?_
      · rintro i hi ⟨hI1, hI2, hI3⟩
        match i, hi with
        | 0, _ =>
          cases ho : (same2 (.mk o v [g, h])).2 with
          | true =>
            have hr2 : rule2 (.mk o v [g, h]) = some (same2 (.mk o v [g, h])).1 := by unfold rule2; rw [ho, if_pos rfl]
            rw [hr2] at hm
            simp only at hm
            cases hs : simpleF (same2 (.mk o v [g, h])).1 with
            | true =>
              rw [if_pos hs] at hm
              cases hm
              have H := And.intro @ho @hs
              refine autoA ?_
              try exact trivial
              first | exact cut_none _ | exact finA
            | false =>
              rw [hs, if_neg Bool.false_ne_true] at hm
              have H := And.intro @ho @hs
              refine autoA ?_
              try exact trivial
              exact ⟨(m, (same2 (.mk o v [g, h])).1, false), ⟨hm, okA_same2 hA, fun h => rfl⟩, Nat.lt_succ_self m, by simp only [go_sem, seval, reduceCtorEq, rulesL_ff], cutA⟩
          | false =>
            have H := @ho
            refine autoA ?_
            try exact trivial
            try exact cutA
        | 1, _ =>
          have n1 := hI1 (by omega)
          cases ho : (firstF (.mk o v [g, h])).2 with
          | true =>
            have hr2 : rule2 (.mk o v [g, h]) = some (firstF (.mk o v [g, h])).1 := by unfold rule2; rw [n1, ho, if_neg Bool.false_ne_true, if_pos rfl]
            rw [hr2] at hm
            simp only at hm
            cases hs : simpleF (firstF (.mk o v [g, h])).1 with
            | true =>
              rw [if_pos hs] at hm
              cases hm
              have H := And.intro @ho @hs
              refine autoA ?_
              try exact trivial
              first | exact cut_none _ | exact finA
            | false =>
              rw [hs, if_neg Bool.false_ne_true] at hm
              have H := And.intro @ho @hs
              refine autoA ?_
              try exact trivial
              exact ⟨(m, (firstF (.mk o v [g, h])).1, false), ⟨hm, okA_first hA, fun h => rfl⟩, Nat.lt_succ_self m, by simp only [go_sem, seval, reduceCtorEq, rulesL_ff], cutA⟩
          | false =>
            have H := And.intro @ho @n1
            refine autoA ?_
            try exact trivial
            try exact cutA
        | 2, _ =>
          have n1 := hI1 (by omega)
          have n2 := hI2 (by omega)
          cases ho : (secondF (.mk o v [g, h])).2 with
          | true =>
            have hr2 : rule2 (.mk o v [g, h]) = some (secondF (.mk o v [g, h])).1 := by unfold rule2; rw [n1, n2, ho, if_neg Bool.false_ne_true, if_neg Bool.false_ne_true, if_pos rfl]
            rw [hr2] at hm
            simp only at hm
            cases hs : simpleF (secondF (.mk o v [g, h])).1 with
            | true =>
              rw [if_pos hs] at hm
              cases hm
              have H := And.intro @ho @hs
              refine autoA ?_
              try exact trivial
              first | exact cut_none _ | exact finA
            | false =>
              rw [hs, if_neg Bool.false_ne_true] at hm
              have H := And.intro @ho @hs
              refine autoA ?_
              try exact trivial
              exact ⟨(m, (secondF (.mk o v [g, h])).1, false), ⟨hm, okA_second hA, fun h => rfl⟩, Nat.lt_succ_self m, by simp only [go_sem, seval, reduceCtorEq, rulesL_ff], cutA⟩
          | false =>
            have H := And.intro @ho (And.intro @n1 @n2)
            refine autoA ?_
            try exact trivial
            try exact cutA
      · rintro ⟨hI1, hI2, hI3⟩
        have hr2 : rule2 (.mk o v [g, h]) = none := by unfold rule2; rw [hI1 (by omega), hI2 (by omega), hI3 (by omega)]; rfl
        rw [hr2] at hm
        cases hm
        have H := trivial
        refine autoA ?_
        try exact trivial
        first | exact cut_none _ | exact finA
  · have H := trivial
    refine autoA ?_
    try exact trivial
    have hb : ([g] : List Fm).length = 2 → true = false := fun h => by cases h
    refine WK.block ?_
    refine WK.loopX [1, 2] [3] (fun s : Nat × Fm × Bool => [.list true (rulesL s.2.2)]) (fun s => (Sto.none.add (.box [.int .i64 s.2.1.op, .int .i64 s.2.1.var, .list false (encFs s.2.1.args)])).add (.box [.int .i64 0, .int .i64 0, .list true []])) (fun s => mkF s.1 s.2.1 = some r ∧ okA s.2.1 ∧ (s.2.1.args.length = 2 → s.2.2 = false)) (fun s => s.1) (n, _, true) (by decide) ⟨hr, hA, hb⟩ (by simp only [go_sem, seval, reduceCtorEq, rulesL_ff, rulesL_tt]) rfl ?_
    rintro ⟨m, ⟨o, v, l⟩, b⟩ ⟨hm, hA, hb⟩
    simp only at hm hA hb
    have h3 := args012 hA
    simp only [fm_args] at h3
    cases m with
    | zero => cases hm
    | succ m =>
    rcases h3 with rfl | ⟨g, rfl⟩ | ⟨g, h, rfl⟩
    · simp only [mkF, fm_args, Option.some.injEq] at hm
      subst hm
      have H := trivial
      refine autoA ?_
      try exact trivial
      first | exact cut_none _ | exact finA
    · have hg : okA g := okA_sub hA List.mem_cons_self
      have hA1 := okA_one hA
      simp only [mkF, fm_args] at hm
      have H := trivial
      refine autoA ?_
      try exact trivial
      refine rangeAI (1) [1, 2, 3, 23] [] (fun i => []) (fun i => (Sto.none.add (.box [.int .i64 o, .int .i64 v, .list false (encFs [g])])).add (.box [.int .i64 0, .int .i64 0, .list true []])) (fun i => 0 < i → (oneF (.mk o v [g])).2 = false) ?_ ?_
      · intro i hi hI
        obtain rfl : i = 0 := by omega
        cases ho : (oneF (.mk o v [g])).2 with
        | true =>
          rw [if_pos ho] at hm
          cases hs : simpleF (oneF (.mk o v [g])).1 with
          | true =>
            rw [if_pos hs] at hm
            cases hm
            have H := And.intro @ho @hs
            refine autoA ?_
            try exact trivial
            first | exact cut_none _ | exact finA
          | false =>
            rw [hs, if_neg Bool.false_ne_true] at hm
            have H := And.intro @ho @hs
            refine autoA ?_
            try exact trivial
            exact ⟨(m, (oneF (.mk o v [g])).1, true), ⟨hm, hA1, fun h => (simple_false hs h).elim⟩, Nat.lt_succ_self m, by simp only [go_sem, seval, reduceCtorEq, rulesL_tt], cutA⟩
        | false =>
          have H := @ho
          refine autoA ?_
          try exact trivial
          exact cutA
      · intro hI
        rw [hI Nat.one_pos, if_neg Bool.false_ne_true] at hm
        cases hm
        have H := trivial
        refine autoA ?_
        try exact trivial
        first | exact cut_none _ | exact finA
    · obtain rfl := hb rfl
      have hg : okA g := okA_sub hA List.mem_cons_self
      have hh : okA h := okA_sub hA (List.mem_cons_of_mem _ List.mem_cons_self)
      have hsg := shor_okA g hg
      have i1 : Ctr (C gl) 201 [encF (.mk o v [g, h])] True (.tup [encF (same2 (.mk o v [g, h])).1, .bool (same2 (.mk o v [g, h])).2]) := ⟨fun _ => wsame_ok o v g h hsg⟩
      have i2 : Ctr (C gl) 202 [encF (.mk o v [g, h])] True (.tup [encF (firstF (.mk o v [g, h])).1, .bool (firstF (.mk o v [g, h])).2]) := ⟨fun _ => wfirst_ok o v g h hh⟩
      have i3 : Ctr (C gl) 203 [encF (.mk o v [g, h])] True (.tup [encF (secondF (.mk o v [g, h])).1, .bool (secondF (.mk o v [g, h])).2]) := ⟨fun _ => wsecond_ok o v g h hg⟩
      have k1 := okA_same2 hA
      have k2 := okA_first hA
      have k3 := okA_second hA
      simp only [mkF, fm_args] at hm
      have H := @rulesL_ff
      refine autoA ?_
      try exact trivial
      refine rangeAI (3) [1, 2, 3, 23] [] (fun i => []) (fun i => (Sto.none.add (.box [.int .i64 o, .int .i64 v, .list false (encFs [g, h])])).add (.box [.int .i64 0, .int .i64 0, .list true []])) (fun i => (0 < i → (same2 (.mk o v [g, h])).2 = false) ∧ (1 < i → (firstF (.mk o v [g, h])).2 = false) ∧ (2 < i → (secondF (.mk o v [g, h])).2 = false)) ?_ ?_
      · rintro i hi ⟨hI1, hI2, hI3⟩
        match i, hi with
        | 0, _ =>
          cases ho : (same2 (.mk o v [g, h])).2 with
          | true =>
            have hr2 : rule2 (.mk o v [g, h]) = some (same2 (.mk o v [g, h])).1 := by unfold rule2; rw [ho, if_pos rfl]
            rw [hr2] at hm
            simp only at hm
            cases hs : simpleF (same2 (.mk o v [g, h])).1 with
            | true =>
              rw [if_pos hs] at hm
              cases hm
              have H := And.intro @ho @hs
              refine autoA ?_
              try exact trivial
              first | exact cut_none _ | exact finA
            | false =>
              rw [hs, if_neg Bool.false_ne_true] at hm
              have H := And.intro @ho @hs
              refine autoA ?_
              try exact trivial
              exact ⟨(m, (same2 (.mk o v [g, h])).1, false), ⟨hm, okA_same2 hA, fun h => rfl⟩, Nat.lt_succ_self m, by simp only [go_sem, seval, reduceCtorEq, rulesL_ff], cutA⟩
          | false =>
            have H := @ho
            refine autoA ?_
            try exact trivial
            try exact cutA
        | 1, _ =>
          have n1 := hI1 (by omega)
          cases ho : (firstF (.mk o v [g, h])).2 with
          | true =>
            have hr2 : rule2 (.mk o v [g, h]) = some (firstF (.mk o v [g, h])).1 := by unfold rule2; rw [n1, ho, if_neg Bool.false_ne_true, if_pos rfl]
            rw [hr2] at hm
            simp only at hm
            cases hs : simpleF (firstF (.mk o v [g, h])).1 with
            | true =>
              rw [if_pos hs] at hm
              cases hm
              have H := And.intro @ho @hs
              refine autoA ?_
              try exact trivial
              first | exact cut_none _ | exact finA
            | false =>
              rw [hs, if_neg Bool.false_ne_true] at hm
              have H := And.intro @ho @hs
              refine autoA ?_
              try exact trivial
              exact ⟨(m, (firstF (.mk o v [g, h])).1, false), ⟨hm, okA_first hA, fun h => rfl⟩, Nat.lt_succ_self m, by simp only [go_sem, seval, reduceCtorEq, rulesL_ff], cutA⟩
          | false =>
            have H := And.intro @ho @n1
            refine autoA ?_
            try exact trivial
            try exact cutA
        | 2, _ =>
          have n1 := hI1 (by omega)
          have n2 := hI2 (by omega)
          cases ho : (secondF (.mk o v [g, h])).2 with
          | true =>
            have hr2 : rule2 (.mk o v [g, h]) = some (secondF (.mk o v [g, h])).1 := by unfold rule2; rw [n1, n2, ho, if_neg Bool.false_ne_true, if_neg Bool.false_ne_true, if_pos rfl]
            rw [hr2] at hm
            simp only at hm
            cases hs : simpleF (secondF (.mk o v [g, h])).1 with
            | true =>
              rw [if_pos hs] at hm
              cases hm
              have H := And.intro @ho @hs
              refine autoA ?_
              try exact trivial
              first | exact cut_none _ | exact finA
            | false =>
              rw [hs, if_neg Bool.false_ne_true] at hm
              have H := And.intro @ho @hs
              refine autoA ?_
              try exact trivial
              exact ⟨(m, (secondF (.mk o v [g, h])).1, false), ⟨hm, okA_second hA, fun h => rfl⟩, Nat.lt_succ_self m, by simp only [go_sem, seval, reduceCtorEq, rulesL_ff], cutA⟩
          | false =>
            have H := And.intro @ho (And.intro @n1 @n2)
            refine autoA ?_
            try exact trivial
            try exact cutA
      · rintro ⟨hI1, hI2, hI3⟩
        have hr2 : rule2 (.mk o v [g, h]) = none := by unfold rule2; rw [hI1 (by omega), hI2 (by omega), hI3 (by omega)]; rfl
        rw [hr2] at hm
        cases hm
        have H := trivial
        refine autoA ?_
        try exact trivial
        first | exact cut_none _ | exact finA
  · have H := trivial
    refine autoA ?_
    try exact trivial
    have hb : ([g, h] : List Fm).length = 2 → false = false := fun _ => rfl
    refine WK.block ?_
    refine WK.loopX [1, 2] [3] (fun s : Nat × Fm × Bool => [.list true (rulesL s.2.2)]) (fun s => (Sto.none.add (.box [.int .i64 s.2.1.op, .int .i64 s.2.1.var, .list false (encFs s.2.1.args)])).add (.box [.int .i64 0, .int .i64 0, .list true []])) (fun s => mkF s.1 s.2.1 = some r ∧ okA s.2.1 ∧ (s.2.1.args.length = 2 → s.2.2 = false)) (fun s => s.1) (n, _, false) (by decide) ⟨hr, hA, hb⟩ (by simp only [go_sem, seval, reduceCtorEq, rulesL_ff, rulesL_tt]) rfl ?_
    rintro ⟨m, ⟨o, v, l⟩, b⟩ ⟨hm, hA, hb⟩
    simp only at hm hA hb
    have h3 := args012 hA
    simp only [fm_args] at h3
    cases m with
    | zero => cases hm
    | succ m =>
    rcases h3 with rfl | ⟨g, rfl⟩ | ⟨g, h, rfl⟩
    · simp only [mkF, fm_args, Option.some.injEq] at hm
      subst hm
      have H := trivial
      refine autoA ?_
      try exact trivial
      first | exact cut_none _ | exact finA
    · have hg : okA g := okA_sub hA List.mem_cons_self
      have hA1 := okA_one hA
      simp only [mkF, fm_args] at hm
      have H := trivial
      refine autoA ?_
      try exact trivial
      refine rangeAI (1) [1, 2, 3, 23] [] (fun i => []) (fun i => (Sto.none.add (.box [.int .i64 o, .int .i64 v, .list false (encFs [g])])).add (.box [.int .i64 0, .int .i64 0, .list true []])) (fun i => 0 < i → (oneF (.mk o v [g])).2 = false) ?_ ?_
      · intro i hi hI
        obtain rfl : i = 0 := by omega
        cases ho : (oneF (.mk o v [g])).2 with
        | true =>
          rw [if_pos ho] at hm
          cases hs : simpleF (oneF (.mk o v [g])).1 with
          | true =>
            rw [if_pos hs] at hm
            cases hm
            have H := And.intro @ho @hs
            refine autoA ?_
            try exact trivial
            first | exact cut_none _ | exact finA
          | false =>
            rw [hs, if_neg Bool.false_ne_true] at hm
            have H := And.intro @ho @hs
            refine autoA ?_
            try exact trivial
            exact ⟨(m, (oneF (.mk o v [g])).1, true), ⟨hm, hA1, fun h => (simple_false hs h).elim⟩, Nat.lt_succ_self m, by simp only [go_sem, seval, reduceCtorEq, rulesL_tt], cutA⟩
        | false =>
          have H := @ho
          refine autoA ?_
          try exact trivial
          exact cutA
      · intro hI
        rw [hI Nat.one_pos, if_neg Bool.false_ne_true] at hm
        cases hm
        have H := trivial
        refine autoA ?_
        try exact trivial
        first | exact cut_none _ | exact finA
    · obtain rfl := hb rfl
      have hg : okA g := okA_sub hA List.mem_cons_self
      have hh : okA h := okA_sub hA (List.mem_cons_of_mem _ List.mem_cons_self)
      have hsg := shor_okA g hg
      have i1 : Ctr (C gl) 201 [encF (.mk o v [g, h])] True (.tup [encF (same2 (.mk o v [g, h])).1, .bool (same2 (.mk o v [g, h])).2]) := ⟨fun _ => wsame_ok o v g h hsg⟩
      have i2 : Ctr (C gl) 202 [encF (.mk o v [g, h])] True (.tup [encF (firstF (.mk o v [g, h])).1, .bool (firstF (.mk o v [g, h])).2]) := ⟨fun _ => wfirst_ok o v g h hh⟩
      have i3 : Ctr (C gl) 203 [encF (.mk o v [g, h])] True (.tup [encF (secondF (.mk o v [g, h])).1, .bool (secondF (.mk o v [g, h])).2]) := ⟨fun _ => wsecond_ok o v g h hg⟩
      have k1 := okA_same2 hA
      have k2 := okA_first hA
      have k3 := okA_second hA
      simp only [mkF, fm_args] at hm
      have H := @rulesL_ff
      refine autoA ?_
      try exact trivial
      refine rangeAI (3) [1, 2, 3, 23] [] (fun i => []) (fun i => (Sto.none.add (.box [.int .i64 o, .int .i64 v, .list false (encFs [g, h])])).add (.box [.int .i64 0, .int .i64 0, .list true []])) (fun i => (0 < i → (same2 (.mk o v [g, h])).2 = false) ∧ (1 < i → (firstF (.mk o v [g, h])).2 = false) ∧ (2 < i → (secondF (.mk o v [g, h])).2 = false)) ?_ ?_
      · rintro i hi ⟨hI1, hI2, hI3⟩
        match i, hi with
        | 0, _ =>
          cases ho : (same2 (.mk o v [g, h])).2 with
          | true =>
            have hr2 : rule2 (.mk o v [g, h]) = some (same2 (.mk o v [g, h])).1 := by unfold rule2; rw [ho, if_pos rfl]
            rw [hr2] at hm
            simp only at hm
            cases hs : simpleF (same2 (.mk o v [g, h])).1 with
            | true =>
              rw [if_pos hs] at hm
              cases hm
              have H := And.intro @ho @hs
              refine autoA ?_
              try exact trivial
              first | exact cut_none _ | exact finA
            | false =>
              rw [hs, if_neg Bool.false_ne_true] at hm
              have H := And.intro @ho @hs
              refine autoA ?_
              try exact trivial
              exact ⟨(m, (same2 (.mk o v [g, h])).1, false), ⟨hm, okA_same2 hA, fun h => rfl⟩, Nat.lt_succ_self m, by simp only [go_sem, seval, reduceCtorEq, rulesL_ff], cutA⟩
          | false =>
            have H := @ho
            refine autoA ?_
            try exact trivial
            try exact cutA
        | 1, _ =>
          have n1 := hI1 (by omega)
          cases ho : (firstF (.mk o v [g, h])).2 with
          | true =>
            have hr2 : rule2 (.mk o v [g, h]) = some (firstF (.mk o v [g, h])).1 := by unfold rule2; rw [n1, ho, if_neg Bool.false_ne_true, if_pos rfl]
            rw [hr2] at hm
            simp only at hm
            cases hs : simpleF (firstF (.mk o v [g, h])).1 with
            | true =>
              rw [if_pos hs] at hm
              cases hm
              have H := And.intro @ho @hs
              refine autoA ?_
              try exact trivial
              first | exact cut_none _ | exact finA
            | false =>
              rw [hs, if_neg Bool.false_ne_true] at hm
              have H := And.intro @ho @hs
              refine autoA ?_
              try exact trivial
              exact ⟨(m, (firstF (.mk o v [g, h])).1, false), ⟨hm, okA_first hA, fun h => rfl⟩, Nat.lt_succ_self m, by simp only [go_sem, seval, reduceCtorEq, rulesL_ff], cutA⟩
          | false =>
            have H := And.intro @ho @n1
            refine autoA ?_
            try exact trivial
            try exact cutA
        | 2, _ =>
          have n1 := hI1 (by omega)
          have n2 := hI2 (by omega)
          cases ho : (secondF (.mk o v [g, h])).2 with
          | true =>
            have hr2 : rule2 (.mk o v [g, h]) = some (secondF (.mk o v [g, h])).1 := by unfold rule2; rw [n1, n2, ho, if_neg Bool.false_ne_true, if_neg Bool.false_ne_true, if_pos rfl]
            rw [hr2] at hm
            simp only at hm
            cases hs : simpleF (secondF (.mk o v [g, h])).1 with
            | true =>
              rw [if_pos hs] at hm
              cases hm
              have H := And.intro @ho @hs
              refine autoA ?_
              try exact trivial
              first | exact cut_none _ | exact finA
            | false =>
              rw [hs, if_neg Bool.false_ne_true] at hm
              have H := And.intro @ho @hs
              refine autoA ?_
              try exact trivial
              exact ⟨(m, (secondF (.mk o v [g, h])).1, false), ⟨hm, okA_second hA, fun h => rfl⟩, Nat.lt_succ_self m, by simp only [go_sem, seval, reduceCtorEq, rulesL_ff], cutA⟩
          | false =>
            have H := And.intro @ho (And.intro @n1 @n2)
            refine autoA ?_
            try exact trivial
            try exact cutA
      · rintro ⟨hI1, hI2, hI3⟩
        have hr2 : rule2 (.mk o v [g, h]) = none := by unfold rule2; rw [hI1 (by omega), hI2 (by omega), hI3 (by omega)]; rfl
        rw [hr2] at hm
        cases hm
        have H := trivial
        refine autoA ?_
        try exact trivial
        first | exact cut_none _ | exact finA
end
end Go.Sx
