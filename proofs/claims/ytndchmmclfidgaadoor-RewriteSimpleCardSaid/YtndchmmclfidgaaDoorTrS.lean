import Derived.Test.YtndchmmclfidgaaDoorTrP
import Derived.Test.YtndchmmclfidgaaDoorLgAv
set_option maxRecDepth 100000
set_option maxHeartbeats 4000000
set_option linter.unusedSimpArgs false
set_option linter.unusedVariables false
set_option linter.unnecessarySimpa false
namespace Go.Sx
open Go Go.Lg Go.Proofs
theorem b124 {gl : GL} : Body (C gl).P 124 Tryd.f124 (codeOf Tryd.f124) := ⟨Tryd.func124, by kernel_rfl, by kernel_rfl⟩
theorem b178 {gl : GL} : Body (C gl).P 178 Tryd.f178 (codeOf Tryd.f178) := ⟨Tryd.func178, by kernel_rfl, by kernel_rfl⟩
theorem b180 {gl : GL} : Body (C gl).P 180 Tryd.f180 (codeOf Tryd.f180) := ⟨Tryd.func180, by kernel_rfl, by kernel_rfl⟩
theorem b177 {gl : GL} : Body (C gl).P 177 Tryd.f177 (codeOf Tryd.f177) := ⟨Tryd.func177, by kernel_rfl, by kernel_rfl⟩
/-- The word of one letter, no proposition true. -/
abbrev w0A : AV := .agg [.list false [], .list false [.int .i64 0]]
section
variable {gl : GL}
theorem turns_ok : PCall (C gl) 124 [w0A] (.int .i64 2) := by
  refine pcallX (callX_of b124 (by simp [Tryd.ntmps124]) ?_) (by simp only [AllCl, cl_agg, cl_list, cl_int, cl_bool, clE_nil, clE_cons, AV.cells, List.mem_cons, List.not_mem_nil, or_false, forall_eq_or_imp, forall_eq, and_true, and_self]) (.int _ _)
  refine W.of ?_
  rw [Tryd.ntmps124]
  simp only [toK, codeOf, Tryd.f124, go_sem, seval, reduceCtorEq]
  have H := trivial
  refine autoA ?_
  try exact trivial
  exact ⟨by decide, cut_none _⟩
instance turns_i : Ctr (C gl) 124 [w0A] True (.int .i64 2) := ⟨fun _ => turns_ok⟩
theorem not_ok (l : List Bool) (hl : l.length < 1000000) : PCall (C gl) 177 [.list false (l.map .bool)] (.list false (l.map fun b => .bool !b)) := by
  refine pcallX (callX_of b177 (by simp [Tryd.ntmps177]) ?_) (by simp only [AllCl, cl_list, and_true]; exact clE_map (fun _ => .bool _) l) (by rw [cl_list]; exact clE_map (fun _ => .bool _) l)
  refine W.of ?_
  rw [Tryd.ntmps177]
  simp only [toK, codeOf, Tryd.f177, go_sem, seval, reduceCtorEq]
  have H := trivial
  refine autoA ?_
  try exact trivial
  refine WK.own0 3 1 (by decide) (by simp only [go_sem, seval, reduceCtorEq]) ?_
  refine rangeA (l.length) [6] [3] (fun i => [.own 0 ((l.take i).map fun b => .bool !b)]) (fun i => (Sto.none.add (.tok 1 i))) ?_ ?_
  · intro i hi
    have mg : (l.map AV.bool).getD i .undef = .bool l[i] := by rw [List.getD_eq_getElem?_getD, List.getElem?_map, List.getElem?_eq_getElem hi]; rfl
    have H := And.intro @hi @mg
    refine autoA ?_
    try exact trivial
    exact cutA
  · rw [List.take_length]
    have H := trivial
    refine autoA ?_
    try exact trivial
    first | exact cut_none _ | exact finA
instance not_i (a b : Bool) : Ctr (C gl) 177 [.list false [.bool a, .bool b]] True (.list false [.bool !a, .bool !b]) := ⟨fun _ => not_ok [a, b] (by simp)⟩
theorem until_ok (a b : Bool) (i j : Int) (h : (i = 0 ∧ j = 1) ∨ (i = 1 ∧ j = 0)) : PCall (C gl) 180 [.list false [.int .i64 i, .int .i64 j], .list false [.bool a, .bool a], .list false [.bool b, .bool b]] (.bool b) := by
  refine pcallX (callX_of b180 (by simp [Tryd.ntmps180]) ?_) (by simp only [AllCl, cl_agg, cl_list, cl_int, cl_bool, clE_nil, clE_cons, AV.cells, List.mem_cons, List.not_mem_nil, or_false, forall_eq_or_imp, forall_eq, and_true, and_self]) (.bool _)
  refine W.of ?_
  rw [Tryd.ntmps180]
  simp only [toK, codeOf, Tryd.f180, go_sem, seval, reduceCtorEq]
  have H := trivial
  refine autoA ?_
  try exact trivial
  rcases h with ⟨rfl, rfl⟩ | ⟨rfl, rfl⟩
  all_goals
    refine rangeAI (2) [1, 2, 9] [] (fun i => []) (fun i => Sto.none) (fun i => (0 < i → b = false)) ?_ ?_
    · intro n hn hI
      match n, hn with
      | 0, _ =>
        cases b with
        | true =>
          have H := trivial
          refine autoA ?_
          try exact trivial
        | false =>
        cases a with
        | true =>
          have H := trivial
          refine autoA ?_
          try exact trivial
          try exact cutA
        | false =>
          have H := trivial
          refine autoA ?_
          try exact trivial
      | 1, _ =>
        obtain rfl := hI Nat.one_pos
        cases a with
        | true =>
          have H := trivial
          refine autoA ?_
          try exact trivial
          try exact cutA
        | false =>
          have H := trivial
          refine autoA ?_
          try exact trivial
    · intro hI
      obtain rfl := hI (by omega)
      have H := trivial
      refine autoA ?_
      try exact trivial
theorem later0_ok : PCall (C gl) 178 [w0A, .int .i64 0] (.list false [.int .i64 0, .int .i64 1]) := by
  refine pcallX (callX_of b178 (by simp [Tryd.ntmps178]) ?_) (by simp only [AllCl, cl_agg, cl_list, cl_int, cl_bool, clE_nil, clE_cons, AV.cells, List.mem_cons, List.not_mem_nil, or_false, forall_eq_or_imp, forall_eq, and_true, and_self]) (by simp only [AllCl, cl_agg, cl_list, cl_int, cl_bool, clE_nil, clE_cons, AV.cells, List.mem_cons, List.not_mem_nil, or_false, forall_eq_or_imp, forall_eq, and_true, and_self])
  refine W.of ?_
  rw [Tryd.ntmps178]
  simp only [toK, codeOf, Tryd.f178, go_sem, seval, reduceCtorEq]
  have H := trivial
  refine autoA ?_
  repeat' (first | (refine WK.draw (ops := #[_, _, _, _, _, _, _, _, _, _, _, _, _, _, _, _, _]) [dq 0 0, dq 0 0, dq 0 0, dq 0 0, dq 0 0, dq 0 0, dq 0 0, dq 0 0, dq 0 0, dq 0 0, dq 0 0, dq 0 0, dq 0 0, dq 0 0, dq 0 0, dm, dq 0 0] mixed (by kernel_rfl) ?_; refine autoA ?_))
  try exact trivial
  refine WK.own0 6 1 (by decide) (by simp only [go_sem, seval, reduceCtorEq]) ?_
  refine WK.block ?_
  refine WK.loopX [1, 2, 5] [7, 6] (fun n : Nat => [.int .i64 ([0, 0 + 1, 0 + 2].getD n 0), .own 1 (([.int .i64 0, .int .i64 1] : List AV).take n)]) (fun n => ((Sto.none.add (.box [.list false [], .list false [.int .i64 0]])).add (.tok 1 n))) (fun n => n ≤ 2) (fun n => 2 - n) 0 (by decide) (by omega) (by simp only [go_sem, seval, reduceCtorEq, List.take_zero, List.getD_cons_zero]) rfl ?_
  intro n hn
  match n, hn with
  | 0, _ =>
    simp only [List.getD_cons_zero, List.take_zero]
    have H := trivial
    refine autoW ?_
    repeat' (first | (refine WK.draw (ops := #[_, _, _, _, _, _, _, _, _, _, _, _, _, _, _, _, _]) [dq 0 0, dq 0 0, dq 0 0, dq 0 0, dq 0 0, dq 0 0, dq 0 0, dq 0 0, dq 0 0, dq 0 0, dq 0 0, dq 0 0, dq 0 0, dq 0 0, dq 0 0, dm, dq 0 0] mixed (by kernel_rfl) ?_; refine autoW ?_))
    try exact trivial
    refine appK_own (f := _) (by simp only [go_sem, seval, reduceCtorEq]; rfl) (by simp only [go_sem, seval, reduceCtorEq]; rfl) (by simp only [go_sem, seval, reduceCtorEq]; rfl) (by simp only [go_sem, seval, reduceCtorEq]) (by simp only [go_sem, seval, reduceCtorEq, List.length_map, List.length_take, List.length_range, List.length_append, List.length_cons, List.length_nil]; first | done | omega) ?_ (by simp only [go_sem, seval, reduceCtorEq]; rfl) (by simp only [go_sem, seval, reduceCtorEq]) ?_ (by kernel_rfl) (by simp only [go_sem, seval, reduceCtorEq, List.length_map, List.length_take, List.length_range, List.length_append, List.length_cons, List.length_nil]; first | done | omega) (by simp only [go_sem, seval, reduceCtorEq, List.length_map, List.length_take, List.length_range, List.length_append, List.length_cons, List.length_nil]; first | done | omega) ?_
    all_goals (try simp only [go_sem, seval, reduceCtorEq])
    all_goals (try (refine okes_map fun _ => ?_; simp only [go_sem, seval, reduceCtorEq]; done))
    have H := trivial
    refine autoW ?_
    repeat' (first | (refine WK.draw (ops := #[_, _, _, _, _, _, _, _, _, _, _, _, _, _, _, _, _]) [dq 0 0, dq 0 0, dq 0 0, dq 0 0, dq 0 0, dq 0 0, dq 0 0, dq 0 0, dq 0 0, dq 0 0, dq 0 0, dq 0 0, dq 0 0, dq 0 0, dq 0 0, dm, dq 0 0] mixed (by kernel_rfl) ?_; refine autoW ?_))
    try exact trivial
    exact ⟨1, by omega, by omega, ⟨rfl, .refl _, by simp only [go_sem, seval, reduceCtorEq, List.take_succ_cons, List.take_zero]⟩, cutA⟩
  | 1, _ =>
    simp only [List.getD_cons_succ, List.getD_cons_zero, List.take_succ_cons, List.take_zero]
    have H := trivial
    refine autoW ?_
    repeat' (first | (refine WK.draw (ops := #[_, _, _, _, _, _, _, _, _, _, _, _, _, _, _, _, _]) [dq 0 0, dq 0 0, dq 0 0, dq 0 0, dq 0 0, dq 0 0, dq 0 0, dq 0 0, dq 0 0, dq 0 0, dq 0 0, dq 0 0, dq 0 0, dq 0 0, dq 0 0, dm, dq 0 0] mixed (by kernel_rfl) ?_; refine autoW ?_))
    try exact trivial
    refine appK_own (f := _) (by simp only [go_sem, seval, reduceCtorEq]; rfl) (by simp only [go_sem, seval, reduceCtorEq]; rfl) (by simp only [go_sem, seval, reduceCtorEq]; rfl) (by simp only [go_sem, seval, reduceCtorEq]) (by simp only [go_sem, seval, reduceCtorEq, List.length_map, List.length_take, List.length_range, List.length_append, List.length_cons, List.length_nil]; first | done | omega) ?_ (by simp only [go_sem, seval, reduceCtorEq]; rfl) (by simp only [go_sem, seval, reduceCtorEq]) ?_ (by kernel_rfl) (by simp only [go_sem, seval, reduceCtorEq, List.length_map, List.length_take, List.length_range, List.length_append, List.length_cons, List.length_nil]; first | done | omega) (by simp only [go_sem, seval, reduceCtorEq, List.length_map, List.length_take, List.length_range, List.length_append, List.length_cons, List.length_nil]; first | done | omega) ?_
    all_goals (try simp only [go_sem, seval, reduceCtorEq])
    all_goals (try (refine okes_map fun _ => ?_; simp only [go_sem, seval, reduceCtorEq]; done))
    have H := trivial
    refine autoW ?_
    repeat' (first | (refine WK.draw (ops := #[_, _, _, _, _, _, _, _, _, _, _, _, _, _, _, _, _]) [dq 0 0, dq 0 0, dq 0 0, dq 0 0, dq 0 0, dq 0 0, dq 0 0, dq 0 0, dq 0 0, dq 0 0, dq 0 0, dq 0 0, dq 0 0, dq 0 0, dq 0 0, dm, dq 0 0] mixed (by kernel_rfl) ?_; refine autoW ?_))
    try exact trivial
    exact ⟨2, by omega, by omega, ⟨rfl, .refl _, by simp only [go_sem, seval, reduceCtorEq, List.take_succ_cons, List.take_zero]⟩, cutA⟩
  | 2, _ =>
    simp only [List.getD_cons_succ, List.getD_cons_zero, List.take_succ_cons, List.take_zero]
    have H := trivial
    refine autoW ?_
    repeat' (first | (refine WK.draw (ops := #[_, _, _, _, _, _, _, _, _, _, _, _, _, _, _, _, _]) [dq 0 0, dq 0 0, dq 0 0, dq 0 0, dq 0 0, dq 0 0, dq 0 0, dq 0 0, dq 0 0, dq 0 0, dq 0 0, dq 0 0, dq 0 0, dq 0 0, dq 0 0, dm, dq 0 0] mixed (by kernel_rfl) ?_; refine autoW ?_))
    try exact trivial
    exact cut_none _
theorem later1_ok : PCall (C gl) 178 [w0A, .int .i64 1] (.list false [.int .i64 1, .int .i64 0]) := by
  refine pcallX (callX_of b178 (by simp [Tryd.ntmps178]) ?_) (by simp only [AllCl, cl_agg, cl_list, cl_int, cl_bool, clE_nil, clE_cons, AV.cells, List.mem_cons, List.not_mem_nil, or_false, forall_eq_or_imp, forall_eq, and_true, and_self]) (by simp only [AllCl, cl_agg, cl_list, cl_int, cl_bool, clE_nil, clE_cons, AV.cells, List.mem_cons, List.not_mem_nil, or_false, forall_eq_or_imp, forall_eq, and_true, and_self])
  refine W.of ?_
  rw [Tryd.ntmps178]
  simp only [toK, codeOf, Tryd.f178, go_sem, seval, reduceCtorEq]
  have H := trivial
  refine autoA ?_
  repeat' (first | (refine WK.draw (ops := #[_, _, _, _, _, _, _, _, _, _, _, _, _, _, _, _, _]) [dq 0 0, dq 0 0, dq 0 0, dq 0 0, dq 0 0, dq 0 0, dq 0 0, dq 0 0, dq 0 0, dq 0 0, dq 0 0, dq 0 0, dq 0 0, dq 0 0, dq 0 0, dm, dq 0 0] mixed (by kernel_rfl) ?_; refine autoA ?_))
  try exact trivial
  refine WK.own0 6 1 (by decide) (by simp only [go_sem, seval, reduceCtorEq]) ?_
  refine WK.block ?_
  refine WK.loopX [1, 2, 5] [7, 6] (fun n : Nat => [.int .i64 ([1, 1 + 1, 1 + 2].getD n 0), .own 1 (([.int .i64 1, .int .i64 0] : List AV).take n)]) (fun n => ((Sto.none.add (.box [.list false [], .list false [.int .i64 0]])).add (.tok 1 n))) (fun n => n ≤ 2) (fun n => 2 - n) 0 (by decide) (by omega) (by simp only [go_sem, seval, reduceCtorEq, List.take_zero, List.getD_cons_zero]) rfl ?_
  intro n hn
  match n, hn with
  | 0, _ =>
    simp only [List.getD_cons_zero, List.take_zero]
    have H := trivial
    refine autoW ?_
    repeat' (first | (refine WK.draw (ops := #[_, _, _, _, _, _, _, _, _, _, _, _, _, _, _, _, _]) [dq 0 0, dq 0 0, dq 0 0, dq 0 0, dq 0 0, dq 0 0, dq 0 0, dq 0 0, dq 0 0, dq 0 0, dq 0 0, dq 0 0, dq 0 0, dq 0 0, dq 0 0, dm, dq 0 0] mixed (by kernel_rfl) ?_; refine autoW ?_))
    try exact trivial
    refine appK_own (f := _) (by simp only [go_sem, seval, reduceCtorEq]; rfl) (by simp only [go_sem, seval, reduceCtorEq]; rfl) (by simp only [go_sem, seval, reduceCtorEq]; rfl) (by simp only [go_sem, seval, reduceCtorEq]) (by simp only [go_sem, seval, reduceCtorEq, List.length_map, List.length_take, List.length_range, List.length_append, List.length_cons, List.length_nil]; first | done | omega) ?_ (by simp only [go_sem, seval, reduceCtorEq]; rfl) (by simp only [go_sem, seval, reduceCtorEq]) ?_ (by kernel_rfl) (by simp only [go_sem, seval, reduceCtorEq, List.length_map, List.length_take, List.length_range, List.length_append, List.length_cons, List.length_nil]; first | done | omega) (by simp only [go_sem, seval, reduceCtorEq, List.length_map, List.length_take, List.length_range, List.length_append, List.length_cons, List.length_nil]; first | done | omega) ?_
    all_goals (try simp only [go_sem, seval, reduceCtorEq])
    all_goals (try (refine okes_map fun _ => ?_; simp only [go_sem, seval, reduceCtorEq]; done))
    have H := trivial
    refine autoW ?_
    repeat' (first | (refine WK.draw (ops := #[_, _, _, _, _, _, _, _, _, _, _, _, _, _, _, _, _]) [dq 0 0, dq 0 0, dq 0 0, dq 0 0, dq 0 0, dq 0 0, dq 0 0, dq 0 0, dq 0 0, dq 0 0, dq 0 0, dq 0 0, dq 0 0, dq 0 0, dq 0 0, dm, dq 0 0] mixed (by kernel_rfl) ?_; refine autoW ?_))
    try exact trivial
    exact ⟨1, by omega, by omega, ⟨rfl, .refl _, by simp only [go_sem, seval, reduceCtorEq, List.take_succ_cons, List.take_zero]⟩, cutA⟩
  | 1, _ =>
    simp only [List.getD_cons_succ, List.getD_cons_zero, List.take_succ_cons, List.take_zero]
    have H := trivial
    refine autoW ?_
    repeat' (first | (refine WK.draw (ops := #[_, _, _, _, _, _, _, _, _, _, _, _, _, _, _, _, _]) [dq 0 0, dq 0 0, dq 0 0, dq 0 0, dq 0 0, dq 0 0, dq 0 0, dq 0 0, dq 0 0, dq 0 0, dq 0 0, dq 0 0, dq 0 0, dq 0 0, dq 0 0, dm, dq 0 0] mixed (by kernel_rfl) ?_; refine autoW ?_))
    try exact trivial
    refine appD_own (f := _) (by simp only [go_sem, seval, reduceCtorEq]; rfl) (by simp only [go_sem, seval, reduceCtorEq]; rfl) (by simp only [go_sem, seval, reduceCtorEq]; rfl) (by simp only [go_sem, seval, reduceCtorEq]) (by simp only [go_sem, seval, reduceCtorEq, List.length_map, List.length_take, List.length_range, List.length_append, List.length_cons, List.length_nil]; first | done | omega) ?_ (by simp only [go_sem, seval, reduceCtorEq]; rfl) (by simp only [go_sem, seval, reduceCtorEq]) ?_ (by kernel_rfl) (by simp only [go_sem, seval, reduceCtorEq, List.length_map, List.length_take, List.length_range, List.length_append, List.length_cons, List.length_nil]; first | done | omega) (by simp only [go_sem, seval, reduceCtorEq, List.length_map, List.length_take, List.length_range, List.length_append, List.length_cons, List.length_nil]; first | done | omega) ?_
    all_goals (try simp only [go_sem, seval, reduceCtorEq])
    all_goals (try (refine okes_map fun _ => ?_; simp only [go_sem, seval, reduceCtorEq]; done))
    have H := trivial
    refine autoW ?_
    repeat' (first | (refine WK.draw (ops := #[_, _, _, _, _, _, _, _, _, _, _, _, _, _, _, _, _]) [dq 0 0, dq 0 0, dq 0 0, dq 0 0, dq 0 0, dq 0 0, dq 0 0, dq 0 0, dq 0 0, dq 0 0, dq 0 0, dq 0 0, dq 0 0, dq 0 0, dq 0 0, dm, dq 0 0] mixed (by kernel_rfl) ?_; refine autoW ?_))
    try exact trivial
    exact ⟨2, by omega, by omega, ⟨rfl, .refl _, by simp only [go_sem, seval, reduceCtorEq, List.take_succ_cons, List.take_zero]⟩, cutA⟩
  | 2, _ =>
    simp only [List.getD_cons_succ, List.getD_cons_zero, List.take_succ_cons, List.take_zero]
    have H := trivial
    refine autoW ?_
    repeat' (first | (refine WK.draw (ops := #[_, _, _, _, _, _, _, _, _, _, _, _, _, _, _, _, _]) [dq 0 0, dq 0 0, dq 0 0, dq 0 0, dq 0 0, dq 0 0, dq 0 0, dq 0 0, dq 0 0, dq 0 0, dq 0 0, dq 0 0, dq 0 0, dq 0 0, dq 0 0, dm, dq 0 0] mixed (by kernel_rfl) ?_; refine autoW ?_))
    try exact trivial
    exact cut_none _
end
end Go.Sx

set_option maxRecDepth 100000
set_option maxHeartbeats 4000000
set_option linter.unusedSimpArgs false
set_option linter.unusedVariables false
set_option linter.unnecessarySimpa false
namespace Go.Sx
open Go Go.Lg Go.Proofs
theorem b125 {gl : GL} : Body (C gl).P 125 Tryd.f125 (codeOf Tryd.f125) := ⟨Tryd.func125, by kernel_rfl, by kernel_rfl⟩
theorem b66 {gl : GL} : Body (C gl).P 66 Tryd.f66 (codeOf Tryd.f66) := ⟨Tryd.func66, by kernel_rfl, by kernel_rfl⟩
def rw2 (c : Bool) : Nat → List AV
  | 0 => [.bool false, .bool false]
  | 1 => [.bool c, .bool false]
  | _ => [.bool c, .bool c]
theorem ops1 {o v : Int} {g : Fm} (hA : okA (.mk o v [g])) : o = 3 ∨ o = 8 ∨ o = 9 ∨ o = 10 := by
  have hok := hA _ (nodes_self _)
  rw [okNode_eq] at hok
  simp only [Bool.and_eq_true] at hok
  obtain ⟨⟨⟨ho1, ho2⟩, hal⟩, hv⟩ := hok
  replace ho1 := of_decide_eq_true ho1
  replace ho2 := of_decide_eq_true ho2
  replace hal := of_decide_eq_true hal
  have hcs : o = 0 ∨ o = 1 ∨ o = 2 ∨ o = 3 ∨ o = 4 ∨ o = 5 ∨ o = 6 ∨ o = 7 ∨ o = 8 ∨ o = 9 ∨ o = 10 ∨ o = 11 ∨ o = 12 ∨ o = 13 := by omega
  rcases hcs with rfl | rfl | rfl | rfl | rfl | rfl | rfl | rfl | rfl | rfl | rfl | rfl | rfl | rfl <;> first | omega | (exfalso; simp [arityL] at hal)
section
variable {gl : GL}
instance until_i0 (a b : Bool) : Ctr (C gl) 180 [.list false [.int .i64 0, .int .i64 1], .list false [.bool a, .bool a], .list false [.bool b, .bool b]] True (.bool b) := ⟨fun _ => until_ok a b 0 1 (.inl ⟨rfl, rfl⟩)⟩
instance until_i1 (a b : Bool) : Ctr (C gl) 180 [.list false [.int .i64 1, .int .i64 0], .list false [.bool a, .bool a], .list false [.bool b, .bool b]] True (.bool b) := ⟨fun _ => until_ok a b 1 0 (.inr ⟨rfl, rfl⟩)⟩
instance later_i0 : Ctr (C gl) 178 [w0A, .int .i64 0] True (.list false [.int .i64 0, .int .i64 1]) := ⟨fun _ => later0_ok⟩
instance later_i1 : Ctr (C gl) 178 [w0A, .int .i64 1] True (.list false [.int .i64 1, .int .i64 0]) := ⟨fun _ => later1_ok⟩
theorem rep2 {i : Nat} (h : i < 2) : [AV.bool true, AV.bool true].take i ++ [AV.bool true] = AV.bool true :: [AV.bool true].take i := by
  match i, h with
  | 0, _ => rfl
  | 1, _ => rfl
theorem rep2o {i : Nat} (h : i < 2) : OKEs 1 ([AV.bool true, AV.bool true].take i) = True := by
  match i, h with
  | 0, _ => exact okes_nil
  | 1, _ => simp only [List.take_succ_cons, List.take_zero, okes_cons, oke_bool, okes_nil, and_true]
theorem rep2b {i : Nat} (m : Nat) (h : i < 2) : BelE m (AV.bool true :: [AV.bool true].take i) = True := by
  match i, h with
  | 0, _ => simp only [List.take_zero, belE_cons, belE_nil, AV.cells, belL_cons, belL_nil, bel_bool, and_true]
  | 1, _ => simp only [List.take_succ_cons, List.take_zero, belE_cons, belE_nil, AV.cells, belL_cons, belL_nil, bel_bool, and_true]
theorem notrow_ok (σ : Sto) (p : Nat) (hp : σ.get p = some (.row 1 [.bool false, .bool false] false)) (hl : p < σ.next) : CallX (C gl) 177 [.row p 0 2] σ (.list false [.bool true, .bool true]) σ := by
  refine callX_of b177 (by simp [Tryd.ntmps177]) ?_
  have nz_p : (p = σ.next) = False := by simp; omega
  have nx_p : ∀ j, (p = σ.next + j) = False := fun j => by simp; omega
  refine W.of ?_
  rw [Tryd.ntmps177]
  simp only [toK, codeOf, Tryd.f177, go_sem, seval, reduceCtorEq]
  have H := And.intro @nz_p (And.intro @nx_p @hp)
  refine autoA ?_
  try exact trivial
  refine WK.own0 3 1 (by decide) (by simp only [go_sem, seval, reduceCtorEq]) ?_
  refine WK.rangeX (2) [6] [3] (fun i => [.own σ.next ((List.replicate 2 (.bool true)).take i)]) (fun i => (σ.add (.tok 1 i))) (by omega) (by decide) (by simp only [go_sem, seval, reduceCtorEq, nz_p, nx_p]) (by simp only [go_sem, seval, reduceCtorEq, nz_p, nx_p]) (by simp only [go_sem, seval, reduceCtorEq, nz_p, nx_p, List.take_zero]) (by first | rfl | (simp only [go_sem, seval, reduceCtorEq, nz_p, nx_p]; done) | (refine Sto.ext' (by simp only [go_sem, seval, reduceCtorEq, nz_p, nx_p]) (fun i => ?_); simp only [go_sem, seval, reduceCtorEq, nz_p, nx_p]; repeat' split; all_goals (first | rfl | omega | simp_all))) ?_ ?_
  · intro i hi
    have mg : ([.bool false, .bool false] : List AV).getD i .undef = .bool false := by
      match i, hi with
      | 0, _ => rfl
      | 1, _ => rfl
    have e := rep2 hi
    have eo := rep2o hi
    have eb := fun m => rep2b m hi
    have el : ([AV.bool true, AV.bool true].take i).length = i := by rw [List.length_take]; simp only [List.length_cons, List.length_nil]; omega
    have H := And.intro @nz_p (And.intro @nx_p (And.intro @hi (And.intro @mg (And.intro @hp (And.intro @e (And.intro @eo (And.intro @eb @el)))))))
    refine autoA ?_
    try exact trivial
    exact cutA
  · have H := And.intro @nz_p (And.intro @nx_p @hp)
    refine autoA ?_
    try exact trivial
    exact cutA
instance notrow_i (σ : Sto) (p : Nat) : CtrX (C gl) 177 [.row p 0 2] [] σ (σ.get p = some (.row 1 [.bool false, .bool false] false) ∧ p < σ.next) (.list false [.bool true, .bool true]) σ := ⟨fun h => notrow_ok σ p h.1 h.2⟩
theorem table0 (v : Int) : PCall (C gl) 125 [encF (.mk 0 v []), w0A] (.list false [.bool (cv (.mk 0 v [])), .bool (cv (.mk 0 v []))]) := by
  have e : cv (.mk 0 v []) = (true) := rfl
  rw [e]
  refine pcallX (callX_of b125 (by simp [Tryd.ntmps125]) ?_) (by simp only [AllCl, cl_encF, cl_agg, cl_list, cl_int, cl_bool, clE_nil, clE_cons, AV.cells, List.mem_cons, List.not_mem_nil, or_false, forall_eq_or_imp, forall_eq, and_true, and_self]) (by simp only [AllCl, cl_encF, cl_agg, cl_list, cl_int, cl_bool, clE_nil, clE_cons, AV.cells, List.mem_cons, List.not_mem_nil, or_false, forall_eq_or_imp, forall_eq, and_true, and_self])
  refine W.of ?_
  rw [Tryd.ntmps125]
  simp only [toK, codeOf, Tryd.f125, go_sem, seval, reduceCtorEq]
  have H := trivial
  refine autoA ?_
  repeat' (first | (refine WK.draw (ops := #[_, _, _, _, _, _, _]) [dq 0 0, dq 0 0, dq 0 0, dq 0 0, dq 0 0, dm, dq 0 0] mixed (by kernel_rfl) ?_; refine autoA ?_) | (refine WK.draw (ops := #[_, _, _, _, _, _, _, _, _, _, _, _]) [dq 0 0, dq 0 0, dq 0 0, dq 0 0, dm, dq 0 0, dq 1 0, dq 0 0, dq 0 0, dq 0 0, dq 0 0, dm] mixed (by kernel_rfl) ?_; refine autoA ?_) | (refine WK.draw (ops := #[_, _, _, _, _, _, _, _, _, _, _, _, _]) [dq 0 0, dq 0 0, dq 0 0, dq 0 0, dq 0 0, dq 0 0, dq 0 0, dq 0 0, dq 0 0, dq 0 0, dq 0 0, dq 0 0, dm] mixed (by kernel_rfl) ?_; refine autoA ?_))
  try exact trivial
  clear e
  have q := trivial
  have f0 : ∀ c, rw2 c 0 = [.bool false, .bool false] := fun _ => rfl
  have f1 : ∀ c, rw2 c 1 = [.bool c, .bool false] := fun _ => rfl
  have f2 : ∀ c, rw2 c 2 = [.bool c, .bool c] := fun _ => rfl
  have H := And.intro @f0 (And.intro @f1 @f2)
  refine rangeA (2) [2, 3, 5, 6, 7, 8, 9, 39] [] (fun i => []) (fun i => ((((Sto.none.add (.box [.int .i64 0, .int .i64 v, .list false []])).add (.box [.list false [], .list false [.int .i64 0]])).add (.row 1 [.bool false, .bool false] false)).add (.row 1 (rw2 true i) false))) ?_ ?_
  · intro i hi
    match i, hi with
    | 0, _ =>
      all_goals
        have H := And.intro @f0 (And.intro @f1 @f2)
        refine autoA ?_
        repeat' (first | (refine WK.draw (ops := #[_, _, _, _, _, _, _]) [dq 0 0, dq 0 0, dq 0 0, dq 0 0, dq 0 0, dm, dq 0 0] mixed (by kernel_rfl) ?_; refine autoA ?_) | (refine WK.draw (ops := #[_, _, _, _, _, _, _, _, _, _, _, _]) [dq 0 0, dq 0 0, dq 0 0, dq 0 0, dm, dq 0 0, dq 1 0, dq 0 0, dq 0 0, dq 0 0, dq 0 0, dm] mixed (by kernel_rfl) ?_; refine autoA ?_) | (refine WK.draw (ops := #[_, _, _, _, _, _, _, _, _, _, _, _, _]) [dq 0 0, dq 0 0, dq 0 0, dq 0 0, dq 0 0, dq 0 0, dq 0 0, dq 0 0, dq 0 0, dq 0 0, dq 0 0, dq 0 0, dm] mixed (by kernel_rfl) ?_; refine autoA ?_))
        try exact trivial
        try exact cutA
    | 1, _ =>
      all_goals
        have H := And.intro @f0 (And.intro @f1 @f2)
        refine autoA ?_
        repeat' (first | (refine WK.draw (ops := #[_, _, _, _, _, _, _]) [dq 0 0, dq 0 0, dq 0 0, dq 0 0, dq 0 0, dm, dq 0 0] mixed (by kernel_rfl) ?_; refine autoA ?_) | (refine WK.draw (ops := #[_, _, _, _, _, _, _, _, _, _, _, _]) [dq 0 0, dq 0 0, dq 0 0, dq 0 0, dm, dq 0 0, dq 1 0, dq 0 0, dq 0 0, dq 0 0, dq 0 0, dm] mixed (by kernel_rfl) ?_; refine autoA ?_) | (refine WK.draw (ops := #[_, _, _, _, _, _, _, _, _, _, _, _, _]) [dq 0 0, dq 0 0, dq 0 0, dq 0 0, dq 0 0, dq 0 0, dq 0 0, dq 0 0, dq 0 0, dq 0 0, dq 0 0, dq 0 0, dm] mixed (by kernel_rfl) ?_; refine autoA ?_))
        try exact trivial
        try exact cutA
  · rw [f2]
    refine WK.freeze 3 (by simp only [go_sem, seval, reduceCtorEq]; rfl) ?_
    have H := trivial
    refine autoA ?_
    repeat' (first | (refine WK.draw (ops := #[_, _, _, _, _, _, _]) [dq 0 0, dq 0 0, dq 0 0, dq 0 0, dq 0 0, dm, dq 0 0] mixed (by kernel_rfl) ?_; refine autoA ?_) | (refine WK.draw (ops := #[_, _, _, _, _, _, _, _, _, _, _, _]) [dq 0 0, dq 0 0, dq 0 0, dq 0 0, dm, dq 0 0, dq 1 0, dq 0 0, dq 0 0, dq 0 0, dq 0 0, dm] mixed (by kernel_rfl) ?_; refine autoA ?_) | (refine WK.draw (ops := #[_, _, _, _, _, _, _, _, _, _, _, _, _]) [dq 0 0, dq 0 0, dq 0 0, dq 0 0, dq 0 0, dq 0 0, dq 0 0, dq 0 0, dq 0 0, dq 0 0, dq 0 0, dq 0 0, dm] mixed (by kernel_rfl) ?_; refine autoA ?_))
    try exact trivial
    exact cut_none _
theorem table1 (v : Int) : PCall (C gl) 125 [encF (.mk 1 v []), w0A] (.list false [.bool (cv (.mk 1 v [])), .bool (cv (.mk 1 v []))]) := by
  have e : cv (.mk 1 v []) = (false) := rfl
  rw [e]
  refine pcallX (callX_of b125 (by simp [Tryd.ntmps125]) ?_) (by simp only [AllCl, cl_encF, cl_agg, cl_list, cl_int, cl_bool, clE_nil, clE_cons, AV.cells, List.mem_cons, List.not_mem_nil, or_false, forall_eq_or_imp, forall_eq, and_true, and_self]) (by simp only [AllCl, cl_encF, cl_agg, cl_list, cl_int, cl_bool, clE_nil, clE_cons, AV.cells, List.mem_cons, List.not_mem_nil, or_false, forall_eq_or_imp, forall_eq, and_true, and_self])
  refine W.of ?_
  rw [Tryd.ntmps125]
  simp only [toK, codeOf, Tryd.f125, go_sem, seval, reduceCtorEq]
  have H := trivial
  refine autoA ?_
  repeat' (first | (refine WK.draw (ops := #[_, _, _, _, _, _, _]) [dq 0 0, dq 0 0, dq 0 0, dq 0 0, dq 0 0, dm, dq 0 0] mixed (by kernel_rfl) ?_; refine autoA ?_) | (refine WK.draw (ops := #[_, _, _, _, _, _, _, _, _, _, _, _]) [dq 0 0, dq 0 0, dq 0 0, dq 0 0, dm, dq 0 0, dq 1 0, dq 0 0, dq 0 0, dq 0 0, dq 0 0, dm] mixed (by kernel_rfl) ?_; refine autoA ?_) | (refine WK.draw (ops := #[_, _, _, _, _, _, _, _, _, _, _, _, _]) [dq 0 0, dq 0 0, dq 0 0, dq 0 0, dq 0 0, dq 0 0, dq 0 0, dq 0 0, dq 0 0, dq 0 0, dq 0 0, dq 0 0, dm] mixed (by kernel_rfl) ?_; refine autoA ?_))
  try exact trivial
  clear e
  have q := trivial
  have f0 : ∀ c, rw2 c 0 = [.bool false, .bool false] := fun _ => rfl
  have f1 : ∀ c, rw2 c 1 = [.bool c, .bool false] := fun _ => rfl
  have f2 : ∀ c, rw2 c 2 = [.bool c, .bool c] := fun _ => rfl
  have H := And.intro @f0 (And.intro @f1 @f2)
  refine rangeA (2) [2, 3, 5, 6, 7, 8, 9, 39] [] (fun i => []) (fun i => ((((Sto.none.add (.box [.int .i64 1, .int .i64 v, .list false []])).add (.box [.list false [], .list false [.int .i64 0]])).add (.row 1 [.bool false, .bool false] false)).add (.row 1 (rw2 false i) false))) ?_ ?_
  · intro i hi
    match i, hi with
    | 0, _ =>
      all_goals
        have H := And.intro @f0 (And.intro @f1 @f2)
        refine autoA ?_
        repeat' (first | (refine WK.draw (ops := #[_, _, _, _, _, _, _]) [dq 0 0, dq 0 0, dq 0 0, dq 0 0, dq 0 0, dm, dq 0 0] mixed (by kernel_rfl) ?_; refine autoA ?_) | (refine WK.draw (ops := #[_, _, _, _, _, _, _, _, _, _, _, _]) [dq 0 0, dq 0 0, dq 0 0, dq 0 0, dm, dq 0 0, dq 1 0, dq 0 0, dq 0 0, dq 0 0, dq 0 0, dm] mixed (by kernel_rfl) ?_; refine autoA ?_) | (refine WK.draw (ops := #[_, _, _, _, _, _, _, _, _, _, _, _, _]) [dq 0 0, dq 0 0, dq 0 0, dq 0 0, dq 0 0, dq 0 0, dq 0 0, dq 0 0, dq 0 0, dq 0 0, dq 0 0, dq 0 0, dm] mixed (by kernel_rfl) ?_; refine autoA ?_))
        try exact trivial
        try exact cutA
    | 1, _ =>
      all_goals
        have H := And.intro @f0 (And.intro @f1 @f2)
        refine autoA ?_
        repeat' (first | (refine WK.draw (ops := #[_, _, _, _, _, _, _]) [dq 0 0, dq 0 0, dq 0 0, dq 0 0, dq 0 0, dm, dq 0 0] mixed (by kernel_rfl) ?_; refine autoA ?_) | (refine WK.draw (ops := #[_, _, _, _, _, _, _, _, _, _, _, _]) [dq 0 0, dq 0 0, dq 0 0, dq 0 0, dm, dq 0 0, dq 1 0, dq 0 0, dq 0 0, dq 0 0, dq 0 0, dm] mixed (by kernel_rfl) ?_; refine autoA ?_) | (refine WK.draw (ops := #[_, _, _, _, _, _, _, _, _, _, _, _, _]) [dq 0 0, dq 0 0, dq 0 0, dq 0 0, dq 0 0, dq 0 0, dq 0 0, dq 0 0, dq 0 0, dq 0 0, dq 0 0, dq 0 0, dm] mixed (by kernel_rfl) ?_; refine autoA ?_))
        try exact trivial
        try exact cutA
  · rw [f2]
    refine WK.freeze 3 (by simp only [go_sem, seval, reduceCtorEq]; rfl) ?_
    have H := trivial
    refine autoA ?_
    repeat' (first | (refine WK.draw (ops := #[_, _, _, _, _, _, _]) [dq 0 0, dq 0 0, dq 0 0, dq 0 0, dq 0 0, dm, dq 0 0] mixed (by kernel_rfl) ?_; refine autoA ?_) | (refine WK.draw (ops := #[_, _, _, _, _, _, _, _, _, _, _, _]) [dq 0 0, dq 0 0, dq 0 0, dq 0 0, dm, dq 0 0, dq 1 0, dq 0 0, dq 0 0, dq 0 0, dq 0 0, dm] mixed (by kernel_rfl) ?_; refine autoA ?_) | (refine WK.draw (ops := #[_, _, _, _, _, _, _, _, _, _, _, _, _]) [dq 0 0, dq 0 0, dq 0 0, dq 0 0, dq 0 0, dq 0 0, dq 0 0, dq 0 0, dq 0 0, dq 0 0, dq 0 0, dq 0 0, dm] mixed (by kernel_rfl) ?_; refine autoA ?_))
    try exact trivial
    exact cut_none _
theorem table3 (v : Int) (g : Fm) (ig : Ctr (C gl) 125 [encF g, w0A] True (.list false [.bool (cv g), .bool (cv g)])) : PCall (C gl) 125 [encF (.mk 3 v [g]), w0A] (.list false [.bool (cv (.mk 3 v [g])), .bool (cv (.mk 3 v [g]))]) := by
  have e : cv (.mk 3 v [g]) = (!(cv g)) := rfl
  rw [e]
  refine pcallX (callX_of b125 (by simp [Tryd.ntmps125]) ?_) (by simp only [AllCl, cl_encF, cl_agg, cl_list, cl_int, cl_bool, clE_nil, clE_cons, AV.cells, List.mem_cons, List.not_mem_nil, or_false, forall_eq_or_imp, forall_eq, and_true, and_self]) (by simp only [AllCl, cl_encF, cl_agg, cl_list, cl_int, cl_bool, clE_nil, clE_cons, AV.cells, List.mem_cons, List.not_mem_nil, or_false, forall_eq_or_imp, forall_eq, and_true, and_self])
  refine W.of ?_
  rw [Tryd.ntmps125]
  simp only [toK, codeOf, Tryd.f125, go_sem, seval, reduceCtorEq]
  have H := trivial
  refine autoA ?_
  repeat' (first | (refine WK.draw (ops := #[_, _, _, _, _, _, _]) [dq 0 0, dq 0 0, dq 0 0, dq 0 0, dq 0 0, dm, dq 0 0] mixed (by kernel_rfl) ?_; refine autoA ?_) | (refine WK.draw (ops := #[_, _, _, _, _, _, _, _, _, _, _, _]) [dq 0 0, dq 0 0, dq 0 0, dq 0 0, dm, dq 0 0, dq 1 0, dq 0 0, dq 0 0, dq 0 0, dq 0 0, dm] mixed (by kernel_rfl) ?_; refine autoA ?_) | (refine WK.draw (ops := #[_, _, _, _, _, _, _, _, _, _, _, _, _]) [dq 0 0, dq 0 0, dq 0 0, dq 0 0, dq 0 0, dq 0 0, dq 0 0, dq 0 0, dq 0 0, dq 0 0, dq 0 0, dq 0 0, dm] mixed (by kernel_rfl) ?_; refine autoA ?_))
  try exact trivial
  generalize cv g = a
  obtain ⟨c, hc⟩ : ∃ c : Bool, (!a) = c := ⟨_, rfl⟩
  rw [hc]
  have f0 : ∀ c, rw2 c 0 = [.bool false, .bool false] := fun _ => rfl
  have f1 : ∀ c, rw2 c 1 = [.bool c, .bool false] := fun _ => rfl
  have f2 : ∀ c, rw2 c 2 = [.bool c, .bool c] := fun _ => rfl
  have H := And.intro @f0 (And.intro @f1 @f2)
  refine rangeA (2) [2, 3, 5, 6, 7, 8, 9, 39] [] (fun i => []) (fun i => ((((Sto.none.add (.box [.int .i64 3, .int .i64 v, .list false (encFs [g])])).add (.box [.list false [], .list false [.int .i64 0]])).add (.row 1 [.bool false, .bool false] false)).add (.row 1 (rw2 c i) false))) ?_ ?_
  · intro i hi
    match i, hi with
    | 0, _ =>
      cases a <;> (simp at hc; subst hc)
      all_goals
        have H := And.intro @f0 (And.intro @f1 @f2)
        refine autoA ?_
        repeat' (first | (refine WK.draw (ops := #[_, _, _, _, _, _, _]) [dq 0 0, dq 0 0, dq 0 0, dq 0 0, dq 0 0, dm, dq 0 0] mixed (by kernel_rfl) ?_; refine autoA ?_) | (refine WK.draw (ops := #[_, _, _, _, _, _, _, _, _, _, _, _]) [dq 0 0, dq 0 0, dq 0 0, dq 0 0, dm, dq 0 0, dq 1 0, dq 0 0, dq 0 0, dq 0 0, dq 0 0, dm] mixed (by kernel_rfl) ?_; refine autoA ?_) | (refine WK.draw (ops := #[_, _, _, _, _, _, _, _, _, _, _, _, _]) [dq 0 0, dq 0 0, dq 0 0, dq 0 0, dq 0 0, dq 0 0, dq 0 0, dq 0 0, dq 0 0, dq 0 0, dq 0 0, dq 0 0, dm] mixed (by kernel_rfl) ?_; refine autoA ?_))
        try exact trivial
        try exact cutA
    | 1, _ =>
      cases a <;> (simp at hc; subst hc)
      all_goals
        have H := And.intro @f0 (And.intro @f1 @f2)
        refine autoA ?_
        repeat' (first | (refine WK.draw (ops := #[_, _, _, _, _, _, _]) [dq 0 0, dq 0 0, dq 0 0, dq 0 0, dq 0 0, dm, dq 0 0] mixed (by kernel_rfl) ?_; refine autoA ?_) | (refine WK.draw (ops := #[_, _, _, _, _, _, _, _, _, _, _, _]) [dq 0 0, dq 0 0, dq 0 0, dq 0 0, dm, dq 0 0, dq 1 0, dq 0 0, dq 0 0, dq 0 0, dq 0 0, dm] mixed (by kernel_rfl) ?_; refine autoA ?_) | (refine WK.draw (ops := #[_, _, _, _, _, _, _, _, _, _, _, _, _]) [dq 0 0, dq 0 0, dq 0 0, dq 0 0, dq 0 0, dq 0 0, dq 0 0, dq 0 0, dq 0 0, dq 0 0, dq 0 0, dq 0 0, dm] mixed (by kernel_rfl) ?_; refine autoA ?_))
        try exact trivial
        try exact cutA
  · rw [f2]
    refine WK.freeze 3 (by simp only [go_sem, seval, reduceCtorEq]; rfl) ?_
    have H := trivial
    refine autoA ?_
    repeat' (first | (refine WK.draw (ops := #[_, _, _, _, _, _, _]) [dq 0 0, dq 0 0, dq 0 0, dq 0 0, dq 0 0, dm, dq 0 0] mixed (by kernel_rfl) ?_; refine autoA ?_) | (refine WK.draw (ops := #[_, _, _, _, _, _, _, _, _, _, _, _]) [dq 0 0, dq 0 0, dq 0 0, dq 0 0, dm, dq 0 0, dq 1 0, dq 0 0, dq 0 0, dq 0 0, dq 0 0, dm] mixed (by kernel_rfl) ?_; refine autoA ?_) | (refine WK.draw (ops := #[_, _, _, _, _, _, _, _, _, _, _, _, _]) [dq 0 0, dq 0 0, dq 0 0, dq 0 0, dq 0 0, dq 0 0, dq 0 0, dq 0 0, dq 0 0, dq 0 0, dq 0 0, dq 0 0, dm] mixed (by kernel_rfl) ?_; refine autoA ?_))
    try exact trivial
    exact cut_none _
theorem table4 (v : Int) (g h : Fm) (ig : Ctr (C gl) 125 [encF g, w0A] True (.list false [.bool (cv g), .bool (cv g)])) (ih : Ctr (C gl) 125 [encF h, w0A] True (.list false [.bool (cv h), .bool (cv h)])) : PCall (C gl) 125 [encF (.mk 4 v [g, h]), w0A] (.list false [.bool (cv (.mk 4 v [g, h])), .bool (cv (.mk 4 v [g, h]))]) := by
  have e : cv (.mk 4 v [g, h]) = ((cv g) && (cv h)) := rfl
  rw [e]
  refine pcallX (callX_of b125 (by simp [Tryd.ntmps125]) ?_) (by simp only [AllCl, cl_encF, cl_agg, cl_list, cl_int, cl_bool, clE_nil, clE_cons, AV.cells, List.mem_cons, List.not_mem_nil, or_false, forall_eq_or_imp, forall_eq, and_true, and_self]) (by simp only [AllCl, cl_encF, cl_agg, cl_list, cl_int, cl_bool, clE_nil, clE_cons, AV.cells, List.mem_cons, List.not_mem_nil, or_false, forall_eq_or_imp, forall_eq, and_true, and_self])
  refine W.of ?_
  rw [Tryd.ntmps125]
  simp only [toK, codeOf, Tryd.f125, go_sem, seval, reduceCtorEq]
  have H := trivial
  refine autoA ?_
  repeat' (first | (refine WK.draw (ops := #[_, _, _, _, _, _, _]) [dq 0 0, dq 0 0, dq 0 0, dq 0 0, dq 0 0, dm, dq 0 0] mixed (by kernel_rfl) ?_; refine autoA ?_) | (refine WK.draw (ops := #[_, _, _, _, _, _, _, _, _, _, _, _]) [dq 0 0, dq 0 0, dq 0 0, dq 0 0, dm, dq 0 0, dq 1 0, dq 0 0, dq 0 0, dq 0 0, dq 0 0, dm] mixed (by kernel_rfl) ?_; refine autoA ?_) | (refine WK.draw (ops := #[_, _, _, _, _, _, _, _, _, _, _, _, _]) [dq 0 0, dq 0 0, dq 0 0, dq 0 0, dq 0 0, dq 0 0, dq 0 0, dq 0 0, dq 0 0, dq 0 0, dq 0 0, dq 0 0, dm] mixed (by kernel_rfl) ?_; refine autoA ?_))
  try exact trivial
  generalize cv g = a
  generalize cv h = b
  obtain ⟨c, hc⟩ : ∃ c : Bool, (a && b) = c := ⟨_, rfl⟩
  rw [hc]
  have f0 : ∀ c, rw2 c 0 = [.bool false, .bool false] := fun _ => rfl
  have f1 : ∀ c, rw2 c 1 = [.bool c, .bool false] := fun _ => rfl
  have f2 : ∀ c, rw2 c 2 = [.bool c, .bool c] := fun _ => rfl
  have H := And.intro @f0 (And.intro @f1 @f2)
  refine rangeA (2) [2, 3, 5, 6, 7, 8, 9, 39] [] (fun i => []) (fun i => ((((Sto.none.add (.box [.int .i64 4, .int .i64 v, .list false (encFs [g, h])])).add (.box [.list false [], .list false [.int .i64 0]])).add (.row 1 [.bool false, .bool false] false)).add (.row 1 (rw2 c i) false))) ?_ ?_
  · intro i hi
    match i, hi with
    | 0, _ =>
      cases a <;> cases b <;> (simp at hc; subst hc)
      all_goals
        have H := And.intro @f0 (And.intro @f1 @f2)
        refine autoA ?_
        repeat' (first | (refine WK.draw (ops := #[_, _, _, _, _, _, _]) [dq 0 0, dq 0 0, dq 0 0, dq 0 0, dq 0 0, dm, dq 0 0] mixed (by kernel_rfl) ?_; refine autoA ?_) | (refine WK.draw (ops := #[_, _, _, _, _, _, _, _, _, _, _, _]) [dq 0 0, dq 0 0, dq 0 0, dq 0 0, dm, dq 0 0, dq 1 0, dq 0 0, dq 0 0, dq 0 0, dq 0 0, dm] mixed (by kernel_rfl) ?_; refine autoA ?_) | (refine WK.draw (ops := #[_, _, _, _, _, _, _, _, _, _, _, _, _]) [dq 0 0, dq 0 0, dq 0 0, dq 0 0, dq 0 0, dq 0 0, dq 0 0, dq 0 0, dq 0 0, dq 0 0, dq 0 0, dq 0 0, dm] mixed (by kernel_rfl) ?_; refine autoA ?_))
        try exact trivial
        try exact cutA
    | 1, _ =>
      cases a <;> cases b <;> (simp at hc; subst hc)
      all_goals
        have H := And.intro @f0 (And.intro @f1 @f2)
        refine autoA ?_
        repeat' (first | (refine WK.draw (ops := #[_, _, _, _, _, _, _]) [dq 0 0, dq 0 0, dq 0 0, dq 0 0, dq 0 0, dm, dq 0 0] mixed (by kernel_rfl) ?_; refine autoA ?_) | (refine WK.draw (ops := #[_, _, _, _, _, _, _, _, _, _, _, _]) [dq 0 0, dq 0 0, dq 0 0, dq 0 0, dm, dq 0 0, dq 1 0, dq 0 0, dq 0 0, dq 0 0, dq 0 0, dm] mixed (by kernel_rfl) ?_; refine autoA ?_) | (refine WK.draw (ops := #[_, _, _, _, _, _, _, _, _, _, _, _, _]) [dq 0 0, dq 0 0, dq 0 0, dq 0 0, dq 0 0, dq 0 0, dq 0 0, dq 0 0, dq 0 0, dq 0 0, dq 0 0, dq 0 0, dm] mixed (by kernel_rfl) ?_; refine autoA ?_))
        try exact trivial
        try exact cutA
  · rw [f2]
    refine WK.freeze 3 (by simp only [go_sem, seval, reduceCtorEq]; rfl) ?_
    have H := trivial
    refine autoA ?_
    repeat' (first | (refine WK.draw (ops := #[_, _, _, _, _, _, _]) [dq 0 0, dq 0 0, dq 0 0, dq 0 0, dq 0 0, dm, dq 0 0] mixed (by kernel_rfl) ?_; refine autoA ?_) | (refine WK.draw (ops := #[_, _, _, _, _, _, _, _, _, _, _, _]) [dq 0 0, dq 0 0, dq 0 0, dq 0 0, dm, dq 0 0, dq 1 0, dq 0 0, dq 0 0, dq 0 0, dq 0 0, dm] mixed (by kernel_rfl) ?_; refine autoA ?_) | (refine WK.draw (ops := #[_, _, _, _, _, _, _, _, _, _, _, _, _]) [dq 0 0, dq 0 0, dq 0 0, dq 0 0, dq 0 0, dq 0 0, dq 0 0, dq 0 0, dq 0 0, dq 0 0, dq 0 0, dq 0 0, dm] mixed (by kernel_rfl) ?_; refine autoA ?_))
    try exact trivial
    exact cut_none _
theorem table5 (v : Int) (g h : Fm) (ig : Ctr (C gl) 125 [encF g, w0A] True (.list false [.bool (cv g), .bool (cv g)])) (ih : Ctr (C gl) 125 [encF h, w0A] True (.list false [.bool (cv h), .bool (cv h)])) : PCall (C gl) 125 [encF (.mk 5 v [g, h]), w0A] (.list false [.bool (cv (.mk 5 v [g, h])), .bool (cv (.mk 5 v [g, h]))]) := by
  have e : cv (.mk 5 v [g, h]) = ((cv g) || (cv h)) := rfl
  rw [e]
  refine pcallX (callX_of b125 (by simp [Tryd.ntmps125]) ?_) (by simp only [AllCl, cl_encF, cl_agg, cl_list, cl_int, cl_bool, clE_nil, clE_cons, AV.cells, List.mem_cons, List.not_mem_nil, or_false, forall_eq_or_imp, forall_eq, and_true, and_self]) (by simp only [AllCl, cl_encF, cl_agg, cl_list, cl_int, cl_bool, clE_nil, clE_cons, AV.cells, List.mem_cons, List.not_mem_nil, or_false, forall_eq_or_imp, forall_eq, and_true, and_self])
  refine W.of ?_
  rw [Tryd.ntmps125]
  simp only [toK, codeOf, Tryd.f125, go_sem, seval, reduceCtorEq]
  have H := trivial
  refine autoA ?_
  repeat' (first | (refine WK.draw (ops := #[_, _, _, _, _, _, _]) [dq 0 0, dq 0 0, dq 0 0, dq 0 0, dq 0 0, dm, dq 0 0] mixed (by kernel_rfl) ?_; refine autoA ?_) | (refine WK.draw (ops := #[_, _, _, _, _, _, _, _, _, _, _, _]) [dq 0 0, dq 0 0, dq 0 0, dq 0 0, dm, dq 0 0, dq 1 0, dq 0 0, dq 0 0, dq 0 0, dq 0 0, dm] mixed (by kernel_rfl) ?_; refine autoA ?_) | (refine WK.draw (ops := #[_, _, _, _, _, _, _, _, _, _, _, _, _]) [dq 0 0, dq 0 0, dq 0 0, dq 0 0, dq 0 0, dq 0 0, dq 0 0, dq 0 0, dq 0 0, dq 0 0, dq 0 0, dq 0 0, dm] mixed (by kernel_rfl) ?_; refine autoA ?_))
  try exact trivial
  generalize cv g = a
  generalize cv h = b
  obtain ⟨c, hc⟩ : ∃ c : Bool, (a || b) = c := ⟨_, rfl⟩
  rw [hc]
  have f0 : ∀ c, rw2 c 0 = [.bool false, .bool false] := fun _ => rfl
  have f1 : ∀ c, rw2 c 1 = [.bool c, .bool false] := fun _ => rfl
  have f2 : ∀ c, rw2 c 2 = [.bool c, .bool c] := fun _ => rfl
  have H := And.intro @f0 (And.intro @f1 @f2)
  refine rangeA (2) [2, 3, 5, 6, 7, 8, 9, 39] [] (fun i => []) (fun i => ((((Sto.none.add (.box [.int .i64 5, .int .i64 v, .list false (encFs [g, h])])).add (.box [.list false [], .list false [.int .i64 0]])).add (.row 1 [.bool false, .bool false] false)).add (.row 1 (rw2 c i) false))) ?_ ?_
  · intro i hi
    match i, hi with
    | 0, _ =>
      cases a <;> cases b <;> (simp at hc; subst hc)
      all_goals
        have H := And.intro @f0 (And.intro @f1 @f2)
        refine autoA ?_
        repeat' (first | (refine WK.draw (ops := #[_, _, _, _, _, _, _]) [dq 0 0, dq 0 0, dq 0 0, dq 0 0, dq 0 0, dm, dq 0 0] mixed (by kernel_rfl) ?_; refine autoA ?_) | (refine WK.draw (ops := #[_, _, _, _, _, _, _, _, _, _, _, _]) [dq 0 0, dq 0 0, dq 0 0, dq 0 0, dm, dq 0 0, dq 1 0, dq 0 0, dq 0 0, dq 0 0, dq 0 0, dm] mixed (by kernel_rfl) ?_; refine autoA ?_) | (refine WK.draw (ops := #[_, _, _, _, _, _, _, _, _, _, _, _, _]) [dq 0 0, dq 0 0, dq 0 0, dq 0 0, dq 0 0, dq 0 0, dq 0 0, dq 0 0, dq 0 0, dq 0 0, dq 0 0, dq 0 0, dm] mixed (by kernel_rfl) ?_; refine autoA ?_))
        try exact trivial
        try exact cutA
    | 1, _ =>
      cases a <;> cases b <;> (simp at hc; subst hc)
      all_goals
        have H := And.intro @f0 (And.intro @f1 @f2)
        refine autoA ?_
        repeat' (first | (refine WK.draw (ops := #[_, _, _, _, _, _, _]) [dq 0 0, dq 0 0, dq 0 0, dq 0 0, dq 0 0, dm, dq 0 0] mixed (by kernel_rfl) ?_; refine autoA ?_) | (refine WK.draw (ops := #[_, _, _, _, _, _, _, _, _, _, _, _]) [dq 0 0, dq 0 0, dq 0 0, dq 0 0, dm, dq 0 0, dq 1 0, dq 0 0, dq 0 0, dq 0 0, dq 0 0, dm] mixed (by kernel_rfl) ?_; refine autoA ?_) | (refine WK.draw (ops := #[_, _, _, _, _, _, _, _, _, _, _, _, _]) [dq 0 0, dq 0 0, dq 0 0, dq 0 0, dq 0 0, dq 0 0, dq 0 0, dq 0 0, dq 0 0, dq 0 0, dq 0 0, dq 0 0, dm] mixed (by kernel_rfl) ?_; refine autoA ?_))
        try exact trivial
        try exact cutA
  · rw [f2]
    refine WK.freeze 3 (by simp only [go_sem, seval, reduceCtorEq]; rfl) ?_
    have H := trivial
    refine autoA ?_
    repeat' (first | (refine WK.draw (ops := #[_, _, _, _, _, _, _]) [dq 0 0, dq 0 0, dq 0 0, dq 0 0, dq 0 0, dm, dq 0 0] mixed (by kernel_rfl) ?_; refine autoA ?_) | (refine WK.draw (ops := #[_, _, _, _, _, _, _, _, _, _, _, _]) [dq 0 0, dq 0 0, dq 0 0, dq 0 0, dm, dq 0 0, dq 1 0, dq 0 0, dq 0 0, dq 0 0, dq 0 0, dm] mixed (by kernel_rfl) ?_; refine autoA ?_) | (refine WK.draw (ops := #[_, _, _, _, _, _, _, _, _, _, _, _, _]) [dq 0 0, dq 0 0, dq 0 0, dq 0 0, dq 0 0, dq 0 0, dq 0 0, dq 0 0, dq 0 0, dq 0 0, dq 0 0, dq 0 0, dm] mixed (by kernel_rfl) ?_; refine autoA ?_))
    try exact trivial
    exact cut_none _
theorem table6 (v : Int) (g h : Fm) (ig : Ctr (C gl) 125 [encF g, w0A] True (.list false [.bool (cv g), .bool (cv g)])) (ih : Ctr (C gl) 125 [encF h, w0A] True (.list false [.bool (cv h), .bool (cv h)])) : PCall (C gl) 125 [encF (.mk 6 v [g, h]), w0A] (.list false [.bool (cv (.mk 6 v [g, h])), .bool (cv (.mk 6 v [g, h]))]) := by
  have e : cv (.mk 6 v [g, h]) = (!(cv g) || (cv h)) := rfl
  rw [e]
  refine pcallX (callX_of b125 (by simp [Tryd.ntmps125]) ?_) (by simp only [AllCl, cl_encF, cl_agg, cl_list, cl_int, cl_bool, clE_nil, clE_cons, AV.cells, List.mem_cons, List.not_mem_nil, or_false, forall_eq_or_imp, forall_eq, and_true, and_self]) (by simp only [AllCl, cl_encF, cl_agg, cl_list, cl_int, cl_bool, clE_nil, clE_cons, AV.cells, List.mem_cons, List.not_mem_nil, or_false, forall_eq_or_imp, forall_eq, and_true, and_self])
  refine W.of ?_
  rw [Tryd.ntmps125]
  simp only [toK, codeOf, Tryd.f125, go_sem, seval, reduceCtorEq]
  have H := trivial
  refine autoA ?_
  repeat' (first | (refine WK.draw (ops := #[_, _, _, _, _, _, _]) [dq 0 0, dq 0 0, dq 0 0, dq 0 0, dq 0 0, dm, dq 0 0] mixed (by kernel_rfl) ?_; refine autoA ?_) | (refine WK.draw (ops := #[_, _, _, _, _, _, _, _, _, _, _, _]) [dq 0 0, dq 0 0, dq 0 0, dq 0 0, dm, dq 0 0, dq 1 0, dq 0 0, dq 0 0, dq 0 0, dq 0 0, dm] mixed (by kernel_rfl) ?_; refine autoA ?_) | (refine WK.draw (ops := #[_, _, _, _, _, _, _, _, _, _, _, _, _]) [dq 0 0, dq 0 0, dq 0 0, dq 0 0, dq 0 0, dq 0 0, dq 0 0, dq 0 0, dq 0 0, dq 0 0, dq 0 0, dq 0 0, dm] mixed (by kernel_rfl) ?_; refine autoA ?_))
  try exact trivial
  generalize cv g = a
  generalize cv h = b
  obtain ⟨c, hc⟩ : ∃ c : Bool, (!a || b) = c := ⟨_, rfl⟩
  rw [hc]
  have f0 : ∀ c, rw2 c 0 = [.bool false, .bool false] := fun _ => rfl
  have f1 : ∀ c, rw2 c 1 = [.bool c, .bool false] := fun _ => rfl
  have f2 : ∀ c, rw2 c 2 = [.bool c, .bool c] := fun _ => rfl
  have H := And.intro @f0 (And.intro @f1 @f2)
  refine rangeA (2) [2, 3, 5, 6, 7, 8, 9, 39] [] (fun i => []) (fun i => ((((Sto.none.add (.box [.int .i64 6, .int .i64 v, .list false (encFs [g, h])])).add (.box [.list false [], .list false [.int .i64 0]])).add (.row 1 [.bool false, .bool false] false)).add (.row 1 (rw2 c i) false))) ?_ ?_
  · intro i hi
    match i, hi with
    | 0, _ =>
      cases a <;> cases b <;> (simp at hc; subst hc)
      all_goals
        have H := And.intro @f0 (And.intro @f1 @f2)
        refine autoA ?_
        repeat' (first | (refine WK.draw (ops := #[_, _, _, _, _, _, _]) [dq 0 0, dq 0 0, dq 0 0, dq 0 0, dq 0 0, dm, dq 0 0] mixed (by kernel_rfl) ?_; refine autoA ?_) | (refine WK.draw (ops := #[_, _, _, _, _, _, _, _, _, _, _, _]) [dq 0 0, dq 0 0, dq 0 0, dq 0 0, dm, dq 0 0, dq 1 0, dq 0 0, dq 0 0, dq 0 0, dq 0 0, dm] mixed (by kernel_rfl) ?_; refine autoA ?_) | (refine WK.draw (ops := #[_, _, _, _, _, _, _, _, _, _, _, _, _]) [dq 0 0, dq 0 0, dq 0 0, dq 0 0, dq 0 0, dq 0 0, dq 0 0, dq 0 0, dq 0 0, dq 0 0, dq 0 0, dq 0 0, dm] mixed (by kernel_rfl) ?_; refine autoA ?_))
        try exact trivial
        try exact cutA
    | 1, _ =>
      cases a <;> cases b <;> (simp at hc; subst hc)
      all_goals
        have H := And.intro @f0 (And.intro @f1 @f2)
        refine autoA ?_
        repeat' (first | (refine WK.draw (ops := #[_, _, _, _, _, _, _]) [dq 0 0, dq 0 0, dq 0 0, dq 0 0, dq 0 0, dm, dq 0 0] mixed (by kernel_rfl) ?_; refine autoA ?_) | (refine WK.draw (ops := #[_, _, _, _, _, _, _, _, _, _, _, _]) [dq 0 0, dq 0 0, dq 0 0, dq 0 0, dm, dq 0 0, dq 1 0, dq 0 0, dq 0 0, dq 0 0, dq 0 0, dm] mixed (by kernel_rfl) ?_; refine autoA ?_) | (refine WK.draw (ops := #[_, _, _, _, _, _, _, _, _, _, _, _, _]) [dq 0 0, dq 0 0, dq 0 0, dq 0 0, dq 0 0, dq 0 0, dq 0 0, dq 0 0, dq 0 0, dq 0 0, dq 0 0, dq 0 0, dm] mixed (by kernel_rfl) ?_; refine autoA ?_))
        try exact trivial
        try exact cutA
  · rw [f2]
    refine WK.freeze 3 (by simp only [go_sem, seval, reduceCtorEq]; rfl) ?_
    have H := trivial
    refine autoA ?_
    repeat' (first | (refine WK.draw (ops := #[_, _, _, _, _, _, _]) [dq 0 0, dq 0 0, dq 0 0, dq 0 0, dq 0 0, dm, dq 0 0] mixed (by kernel_rfl) ?_; refine autoA ?_) | (refine WK.draw (ops := #[_, _, _, _, _, _, _, _, _, _, _, _]) [dq 0 0, dq 0 0, dq 0 0, dq 0 0, dm, dq 0 0, dq 1 0, dq 0 0, dq 0 0, dq 0 0, dq 0 0, dm] mixed (by kernel_rfl) ?_; refine autoA ?_) | (refine WK.draw (ops := #[_, _, _, _, _, _, _, _, _, _, _, _, _]) [dq 0 0, dq 0 0, dq 0 0, dq 0 0, dq 0 0, dq 0 0, dq 0 0, dq 0 0, dq 0 0, dq 0 0, dq 0 0, dq 0 0, dm] mixed (by kernel_rfl) ?_; refine autoA ?_))
    try exact trivial
    exact cut_none _
theorem table7 (v : Int) (g h : Fm) (ig : Ctr (C gl) 125 [encF g, w0A] True (.list false [.bool (cv g), .bool (cv g)])) (ih : Ctr (C gl) 125 [encF h, w0A] True (.list false [.bool (cv h), .bool (cv h)])) : PCall (C gl) 125 [encF (.mk 7 v [g, h]), w0A] (.list false [.bool (cv (.mk 7 v [g, h])), .bool (cv (.mk 7 v [g, h]))]) := by
  have e : cv (.mk 7 v [g, h]) = ((cv g) == (cv h)) := rfl
  rw [e]
  refine pcallX (callX_of b125 (by simp [Tryd.ntmps125]) ?_) (by simp only [AllCl, cl_encF, cl_agg, cl_list, cl_int, cl_bool, clE_nil, clE_cons, AV.cells, List.mem_cons, List.not_mem_nil, or_false, forall_eq_or_imp, forall_eq, and_true, and_self]) (by simp only [AllCl, cl_encF, cl_agg, cl_list, cl_int, cl_bool, clE_nil, clE_cons, AV.cells, List.mem_cons, List.not_mem_nil, or_false, forall_eq_or_imp, forall_eq, and_true, and_self])
  refine W.of ?_
  rw [Tryd.ntmps125]
  simp only [toK, codeOf, Tryd.f125, go_sem, seval, reduceCtorEq]
  have H := trivial
  refine autoA ?_
  repeat' (first | (refine WK.draw (ops := #[_, _, _, _, _, _, _]) [dq 0 0, dq 0 0, dq 0 0, dq 0 0, dq 0 0, dm, dq 0 0] mixed (by kernel_rfl) ?_; refine autoA ?_) | (refine WK.draw (ops := #[_, _, _, _, _, _, _, _, _, _, _, _]) [dq 0 0, dq 0 0, dq 0 0, dq 0 0, dm, dq 0 0, dq 1 0, dq 0 0, dq 0 0, dq 0 0, dq 0 0, dm] mixed (by kernel_rfl) ?_; refine autoA ?_) | (refine WK.draw (ops := #[_, _, _, _, _, _, _, _, _, _, _, _, _]) [dq 0 0, dq 0 0, dq 0 0, dq 0 0, dq 0 0, dq 0 0, dq 0 0, dq 0 0, dq 0 0, dq 0 0, dq 0 0, dq 0 0, dm] mixed (by kernel_rfl) ?_; refine autoA ?_))
  try exact trivial
  generalize cv g = a
  generalize cv h = b
  obtain ⟨c, hc⟩ : ∃ c : Bool, (a == b) = c := ⟨_, rfl⟩
  rw [hc]
  have f0 : ∀ c, rw2 c 0 = [.bool false, .bool false] := fun _ => rfl
  have f1 : ∀ c, rw2 c 1 = [.bool c, .bool false] := fun _ => rfl
  have f2 : ∀ c, rw2 c 2 = [.bool c, .bool c] := fun _ => rfl
  have H := And.intro @f0 (And.intro @f1 @f2)
  refine rangeA (2) [2, 3, 5, 6, 7, 8, 9, 39] [] (fun i => []) (fun i => ((((Sto.none.add (.box [.int .i64 7, .int .i64 v, .list false (encFs [g, h])])).add (.box [.list false [], .list false [.int .i64 0]])).add (.row 1 [.bool false, .bool false] false)).add (.row 1 (rw2 c i) false))) ?_ ?_
  · intro i hi
    match i, hi with
    | 0, _ =>
      cases a <;> cases b <;> (simp at hc; subst hc)
      all_goals
        have H := And.intro @f0 (And.intro @f1 @f2)
        refine autoA ?_
        repeat' (first | (refine WK.draw (ops := #[_, _, _, _, _, _, _]) [dq 0 0, dq 0 0, dq 0 0, dq 0 0, dq 0 0, dm, dq 0 0] mixed (by kernel_rfl) ?_; refine autoA ?_) | (refine WK.draw (ops := #[_, _, _, _, _, _, _, _, _, _, _, _]) [dq 0 0, dq 0 0, dq 0 0, dq 0 0, dm, dq 0 0, dq 1 0, dq 0 0, dq 0 0, dq 0 0, dq 0 0, dm] mixed (by kernel_rfl) ?_; refine autoA ?_) | (refine WK.draw (ops := #[_, _, _, _, _, _, _, _, _, _, _, _, _]) [dq 0 0, dq 0 0, dq 0 0, dq 0 0, dq 0 0, dq 0 0, dq 0 0, dq 0 0, dq 0 0, dq 0 0, dq 0 0, dq 0 0, dm] mixed (by kernel_rfl) ?_; refine autoA ?_))
        try exact trivial
        try exact cutA
    | 1, _ =>
      cases a <;> cases b <;> (simp at hc; subst hc)
      all_goals
        have H := And.intro @f0 (And.intro @f1 @f2)
        refine autoA ?_
        repeat' (first | (refine WK.draw (ops := #[_, _, _, _, _, _, _]) [dq 0 0, dq 0 0, dq 0 0, dq 0 0, dq 0 0, dm, dq 0 0] mixed (by kernel_rfl) ?_; refine autoA ?_) | (refine WK.draw (ops := #[_, _, _, _, _, _, _, _, _, _, _, _]) [dq 0 0, dq 0 0, dq 0 0, dq 0 0, dm, dq 0 0, dq 1 0, dq 0 0, dq 0 0, dq 0 0, dq 0 0, dm] mixed (by kernel_rfl) ?_; refine autoA ?_) | (refine WK.draw (ops := #[_, _, _, _, _, _, _, _, _, _, _, _, _]) [dq 0 0, dq 0 0, dq 0 0, dq 0 0, dq 0 0, dq 0 0, dq 0 0, dq 0 0, dq 0 0, dq 0 0, dq 0 0, dq 0 0, dm] mixed (by kernel_rfl) ?_; refine autoA ?_))
        try exact trivial
        try exact cutA
  · rw [f2]
    refine WK.freeze 3 (by simp only [go_sem, seval, reduceCtorEq]; rfl) ?_
    have H := trivial
    refine autoA ?_
    repeat' (first | (refine WK.draw (ops := #[_, _, _, _, _, _, _]) [dq 0 0, dq 0 0, dq 0 0, dq 0 0, dq 0 0, dm, dq 0 0] mixed (by kernel_rfl) ?_; refine autoA ?_) | (refine WK.draw (ops := #[_, _, _, _, _, _, _, _, _, _, _, _]) [dq 0 0, dq 0 0, dq 0 0, dq 0 0, dm, dq 0 0, dq 1 0, dq 0 0, dq 0 0, dq 0 0, dq 0 0, dm] mixed (by kernel_rfl) ?_; refine autoA ?_) | (refine WK.draw (ops := #[_, _, _, _, _, _, _, _, _, _, _, _, _]) [dq 0 0, dq 0 0, dq 0 0, dq 0 0, dq 0 0, dq 0 0, dq 0 0, dq 0 0, dq 0 0, dq 0 0, dq 0 0, dq 0 0, dm] mixed (by kernel_rfl) ?_; refine autoA ?_))
    try exact trivial
    exact cut_none _
theorem table8 (v : Int) (g : Fm) (ig : Ctr (C gl) 125 [encF g, w0A] True (.list false [.bool (cv g), .bool (cv g)])) : PCall (C gl) 125 [encF (.mk 8 v [g]), w0A] (.list false [.bool (cv (.mk 8 v [g])), .bool (cv (.mk 8 v [g]))]) := by
  have e : cv (.mk 8 v [g]) = ((cv g)) := rfl
  rw [e]
  refine pcallX (callX_of b125 (by simp [Tryd.ntmps125]) ?_) (by simp only [AllCl, cl_encF, cl_agg, cl_list, cl_int, cl_bool, clE_nil, clE_cons, AV.cells, List.mem_cons, List.not_mem_nil, or_false, forall_eq_or_imp, forall_eq, and_true, and_self]) (by simp only [AllCl, cl_encF, cl_agg, cl_list, cl_int, cl_bool, clE_nil, clE_cons, AV.cells, List.mem_cons, List.not_mem_nil, or_false, forall_eq_or_imp, forall_eq, and_true, and_self])
  refine W.of ?_
  rw [Tryd.ntmps125]
  simp only [toK, codeOf, Tryd.f125, go_sem, seval, reduceCtorEq]
  have H := trivial
  refine autoA ?_
  repeat' (first | (refine WK.draw (ops := #[_, _, _, _, _, _, _]) [dq 0 0, dq 0 0, dq 0 0, dq 0 0, dq 0 0, dm, dq 0 0] mixed (by kernel_rfl) ?_; refine autoA ?_) | (refine WK.draw (ops := #[_, _, _, _, _, _, _, _, _, _, _, _]) [dq 0 0, dq 0 0, dq 0 0, dq 0 0, dm, dq 0 0, dq 1 0, dq 0 0, dq 0 0, dq 0 0, dq 0 0, dm] mixed (by kernel_rfl) ?_; refine autoA ?_) | (refine WK.draw (ops := #[_, _, _, _, _, _, _, _, _, _, _, _, _]) [dq 0 0, dq 0 0, dq 0 0, dq 0 0, dq 0 0, dq 0 0, dq 0 0, dq 0 0, dq 0 0, dq 0 0, dq 0 0, dq 0 0, dm] mixed (by kernel_rfl) ?_; refine autoA ?_))
  try exact trivial
  generalize cv g = a
  clear e
  have q := trivial
  have f0 : ∀ c, rw2 c 0 = [.bool false, .bool false] := fun _ => rfl
  have f1 : ∀ c, rw2 c 1 = [.bool c, .bool false] := fun _ => rfl
  have f2 : ∀ c, rw2 c 2 = [.bool c, .bool c] := fun _ => rfl
  have H := And.intro @f0 (And.intro @f1 @f2)
  refine rangeA (2) [2, 3, 5, 6, 7, 8, 9, 39] [] (fun i => []) (fun i => ((((Sto.none.add (.box [.int .i64 8, .int .i64 v, .list false (encFs [g])])).add (.box [.list false [], .list false [.int .i64 0]])).add (.row 1 [.bool false, .bool false] false)).add (.row 1 (rw2 a i) false))) ?_ ?_
  · intro i hi
    match i, hi with
    | 0, _ =>
      cases a
      all_goals
        have H := And.intro @f0 (And.intro @f1 @f2)
        refine autoA ?_
        repeat' (first | (refine WK.draw (ops := #[_, _, _, _, _, _, _]) [dq 0 0, dq 0 0, dq 0 0, dq 0 0, dq 0 0, dm, dq 0 0] mixed (by kernel_rfl) ?_; refine autoA ?_) | (refine WK.draw (ops := #[_, _, _, _, _, _, _, _, _, _, _, _]) [dq 0 0, dq 0 0, dq 0 0, dq 0 0, dm, dq 0 0, dq 1 0, dq 0 0, dq 0 0, dq 0 0, dq 0 0, dm] mixed (by kernel_rfl) ?_; refine autoA ?_) | (refine WK.draw (ops := #[_, _, _, _, _, _, _, _, _, _, _, _, _]) [dq 0 0, dq 0 0, dq 0 0, dq 0 0, dq 0 0, dq 0 0, dq 0 0, dq 0 0, dq 0 0, dq 0 0, dq 0 0, dq 0 0, dm] mixed (by kernel_rfl) ?_; refine autoA ?_))
        try exact trivial
        try exact cutA
    | 1, _ =>
      cases a
      all_goals
        have H := And.intro @f0 (And.intro @f1 @f2)
        refine autoA ?_
        repeat' (first | (refine WK.draw (ops := #[_, _, _, _, _, _, _]) [dq 0 0, dq 0 0, dq 0 0, dq 0 0, dq 0 0, dm, dq 0 0] mixed (by kernel_rfl) ?_; refine autoA ?_) | (refine WK.draw (ops := #[_, _, _, _, _, _, _, _, _, _, _, _]) [dq 0 0, dq 0 0, dq 0 0, dq 0 0, dm, dq 0 0, dq 1 0, dq 0 0, dq 0 0, dq 0 0, dq 0 0, dm] mixed (by kernel_rfl) ?_; refine autoA ?_) | (refine WK.draw (ops := #[_, _, _, _, _, _, _, _, _, _, _, _, _]) [dq 0 0, dq 0 0, dq 0 0, dq 0 0, dq 0 0, dq 0 0, dq 0 0, dq 0 0, dq 0 0, dq 0 0, dq 0 0, dq 0 0, dm] mixed (by kernel_rfl) ?_; refine autoA ?_))
        try exact trivial
        try exact cutA
  · rw [f2]
    refine WK.freeze 3 (by simp only [go_sem, seval, reduceCtorEq]; rfl) ?_
    have H := trivial
    refine autoA ?_
    repeat' (first | (refine WK.draw (ops := #[_, _, _, _, _, _, _]) [dq 0 0, dq 0 0, dq 0 0, dq 0 0, dq 0 0, dm, dq 0 0] mixed (by kernel_rfl) ?_; refine autoA ?_) | (refine WK.draw (ops := #[_, _, _, _, _, _, _, _, _, _, _, _]) [dq 0 0, dq 0 0, dq 0 0, dq 0 0, dm, dq 0 0, dq 1 0, dq 0 0, dq 0 0, dq 0 0, dq 0 0, dm] mixed (by kernel_rfl) ?_; refine autoA ?_) | (refine WK.draw (ops := #[_, _, _, _, _, _, _, _, _, _, _, _, _]) [dq 0 0, dq 0 0, dq 0 0, dq 0 0, dq 0 0, dq 0 0, dq 0 0, dq 0 0, dq 0 0, dq 0 0, dq 0 0, dq 0 0, dm] mixed (by kernel_rfl) ?_; refine autoA ?_))
    try exact trivial
    exact cut_none _
theorem table9 (v : Int) (g : Fm) (ig : Ctr (C gl) 125 [encF g, w0A] True (.list false [.bool (cv g), .bool (cv g)])) : PCall (C gl) 125 [encF (.mk 9 v [g]), w0A] (.list false [.bool (cv (.mk 9 v [g])), .bool (cv (.mk 9 v [g]))]) := by
  have e : cv (.mk 9 v [g]) = ((cv g)) := rfl
  rw [e]
  refine pcallX (callX_of b125 (by simp [Tryd.ntmps125]) ?_) (by simp only [AllCl, cl_encF, cl_agg, cl_list, cl_int, cl_bool, clE_nil, clE_cons, AV.cells, List.mem_cons, List.not_mem_nil, or_false, forall_eq_or_imp, forall_eq, and_true, and_self]) (by simp only [AllCl, cl_encF, cl_agg, cl_list, cl_int, cl_bool, clE_nil, clE_cons, AV.cells, List.mem_cons, List.not_mem_nil, or_false, forall_eq_or_imp, forall_eq, and_true, and_self])
  refine W.of ?_
  rw [Tryd.ntmps125]
  simp only [toK, codeOf, Tryd.f125, go_sem, seval, reduceCtorEq]
  have H := trivial
  refine autoA ?_
  repeat' (first | (refine WK.draw (ops := #[_, _, _, _, _, _, _]) [dq 0 0, dq 0 0, dq 0 0, dq 0 0, dq 0 0, dm, dq 0 0] mixed (by kernel_rfl) ?_; refine autoA ?_) | (refine WK.draw (ops := #[_, _, _, _, _, _, _, _, _, _, _, _]) [dq 0 0, dq 0 0, dq 0 0, dq 0 0, dm, dq 0 0, dq 1 0, dq 0 0, dq 0 0, dq 0 0, dq 0 0, dm] mixed (by kernel_rfl) ?_; refine autoA ?_) | (refine WK.draw (ops := #[_, _, _, _, _, _, _, _, _, _, _, _, _]) [dq 0 0, dq 0 0, dq 0 0, dq 0 0, dq 0 0, dq 0 0, dq 0 0, dq 0 0, dq 0 0, dq 0 0, dq 0 0, dq 0 0, dm] mixed (by kernel_rfl) ?_; refine autoA ?_))
  try exact trivial
  generalize cv g = a
  clear e
  have q := trivial
  have f0 : ∀ c, rw2 c 0 = [.bool false, .bool false] := fun _ => rfl
  have f1 : ∀ c, rw2 c 1 = [.bool c, .bool false] := fun _ => rfl
  have f2 : ∀ c, rw2 c 2 = [.bool c, .bool c] := fun _ => rfl
  have H := And.intro @f0 (And.intro @f1 @f2)
  refine rangeA (2) [2, 3, 5, 6, 7, 8, 9, 39] [] (fun i => []) (fun i => ((((Sto.none.add (.box [.int .i64 9, .int .i64 v, .list false (encFs [g])])).add (.box [.list false [], .list false [.int .i64 0]])).add (.row 1 [.bool false, .bool false] false)).add (.row 1 (rw2 a i) false))) ?_ ?_
  · intro i hi
    match i, hi with
    | 0, _ =>
      cases a
      all_goals
        have H := And.intro @f0 (And.intro @f1 @f2)
        refine autoA ?_
        repeat' (first | (refine WK.draw (ops := #[_, _, _, _, _, _, _]) [dq 0 0, dq 0 0, dq 0 0, dq 0 0, dq 0 0, dm, dq 0 0] mixed (by kernel_rfl) ?_; refine autoA ?_) | (refine WK.draw (ops := #[_, _, _, _, _, _, _, _, _, _, _, _]) [dq 0 0, dq 0 0, dq 0 0, dq 0 0, dm, dq 0 0, dq 1 0, dq 0 0, dq 0 0, dq 0 0, dq 0 0, dm] mixed (by kernel_rfl) ?_; refine autoA ?_) | (refine WK.draw (ops := #[_, _, _, _, _, _, _, _, _, _, _, _, _]) [dq 0 0, dq 0 0, dq 0 0, dq 0 0, dq 0 0, dq 0 0, dq 0 0, dq 0 0, dq 0 0, dq 0 0, dq 0 0, dq 0 0, dm] mixed (by kernel_rfl) ?_; refine autoA ?_))
        try exact trivial
        try exact cutA
    | 1, _ =>
      cases a
      all_goals
        have H := And.intro @f0 (And.intro @f1 @f2)
        refine autoA ?_
        repeat' (first | (refine WK.draw (ops := #[_, _, _, _, _, _, _]) [dq 0 0, dq 0 0, dq 0 0, dq 0 0, dq 0 0, dm, dq 0 0] mixed (by kernel_rfl) ?_; refine autoA ?_) | (refine WK.draw (ops := #[_, _, _, _, _, _, _, _, _, _, _, _]) [dq 0 0, dq 0 0, dq 0 0, dq 0 0, dm, dq 0 0, dq 1 0, dq 0 0, dq 0 0, dq 0 0, dq 0 0, dm] mixed (by kernel_rfl) ?_; refine autoA ?_) | (refine WK.draw (ops := #[_, _, _, _, _, _, _, _, _, _, _, _, _]) [dq 0 0, dq 0 0, dq 0 0, dq 0 0, dq 0 0, dq 0 0, dq 0 0, dq 0 0, dq 0 0, dq 0 0, dq 0 0, dq 0 0, dm] mixed (by kernel_rfl) ?_; refine autoA ?_))
        try exact trivial
        try exact cutA
  · rw [f2]
    refine WK.freeze 3 (by simp only [go_sem, seval, reduceCtorEq]; rfl) ?_
    have H := trivial
    refine autoA ?_
    repeat' (first | (refine WK.draw (ops := #[_, _, _, _, _, _, _]) [dq 0 0, dq 0 0, dq 0 0, dq 0 0, dq 0 0, dm, dq 0 0] mixed (by kernel_rfl) ?_; refine autoA ?_) | (refine WK.draw (ops := #[_, _, _, _, _, _, _, _, _, _, _, _]) [dq 0 0, dq 0 0, dq 0 0, dq 0 0, dm, dq 0 0, dq 1 0, dq 0 0, dq 0 0, dq 0 0, dq 0 0, dm] mixed (by kernel_rfl) ?_; refine autoA ?_) | (refine WK.draw (ops := #[_, _, _, _, _, _, _, _, _, _, _, _, _]) [dq 0 0, dq 0 0, dq 0 0, dq 0 0, dq 0 0, dq 0 0, dq 0 0, dq 0 0, dq 0 0, dq 0 0, dq 0 0, dq 0 0, dm] mixed (by kernel_rfl) ?_; refine autoA ?_))
    try exact trivial
    exact cut_none _
theorem table10 (v : Int) (g : Fm) (ig : Ctr (C gl) 125 [encF g, w0A] True (.list false [.bool (cv g), .bool (cv g)])) : PCall (C gl) 125 [encF (.mk 10 v [g]), w0A] (.list false [.bool (cv (.mk 10 v [g])), .bool (cv (.mk 10 v [g]))]) := by
  have e : cv (.mk 10 v [g]) = ((cv g)) := rfl
  rw [e]
  refine pcallX (callX_of b125 (by simp [Tryd.ntmps125]) ?_) (by simp only [AllCl, cl_encF, cl_agg, cl_list, cl_int, cl_bool, clE_nil, clE_cons, AV.cells, List.mem_cons, List.not_mem_nil, or_false, forall_eq_or_imp, forall_eq, and_true, and_self]) (by simp only [AllCl, cl_encF, cl_agg, cl_list, cl_int, cl_bool, clE_nil, clE_cons, AV.cells, List.mem_cons, List.not_mem_nil, or_false, forall_eq_or_imp, forall_eq, and_true, and_self])
  refine W.of ?_
  rw [Tryd.ntmps125]
  simp only [toK, codeOf, Tryd.f125, go_sem, seval, reduceCtorEq]
  have H := trivial
  refine autoA ?_
  repeat' (first | (refine WK.draw (ops := #[_, _, _, _, _, _, _]) [dq 0 0, dq 0 0, dq 0 0, dq 0 0, dq 0 0, dm, dq 0 0] mixed (by kernel_rfl) ?_; refine autoA ?_) | (refine WK.draw (ops := #[_, _, _, _, _, _, _, _, _, _, _, _]) [dq 0 0, dq 0 0, dq 0 0, dq 0 0, dm, dq 0 0, dq 1 0, dq 0 0, dq 0 0, dq 0 0, dq 0 0, dm] mixed (by kernel_rfl) ?_; refine autoA ?_) | (refine WK.draw (ops := #[_, _, _, _, _, _, _, _, _, _, _, _, _]) [dq 0 0, dq 0 0, dq 0 0, dq 0 0, dq 0 0, dq 0 0, dq 0 0, dq 0 0, dq 0 0, dq 0 0, dq 0 0, dq 0 0, dm] mixed (by kernel_rfl) ?_; refine autoA ?_))
  try exact trivial
  generalize cv g = a
  clear e
  have q := trivial
  have f0 : ∀ c, rw2 c 0 = [.bool false, .bool false] := fun _ => rfl
  have f1 : ∀ c, rw2 c 1 = [.bool c, .bool false] := fun _ => rfl
  have f2 : ∀ c, rw2 c 2 = [.bool c, .bool c] := fun _ => rfl
  have H := And.intro @f0 (And.intro @f1 @f2)
  refine rangeA (2) [2, 3, 5, 6, 7, 8, 9, 39] [] (fun i => []) (fun i => ((((Sto.none.add (.box [.int .i64 10, .int .i64 v, .list false (encFs [g])])).add (.box [.list false [], .list false [.int .i64 0]])).add (.row 1 [.bool false, .bool false] false)).add (.row 1 (rw2 a i) false))) ?_ ?_
  · intro i hi
    match i, hi with
    | 0, _ =>
      cases a
      all_goals
        have H := And.intro @f0 (And.intro @f1 @f2)
        refine autoA ?_
        repeat' (first | (refine WK.draw (ops := #[_, _, _, _, _, _, _]) [dq 0 0, dq 0 0, dq 0 0, dq 0 0, dq 0 0, dm, dq 0 0] mixed (by kernel_rfl) ?_; refine autoA ?_) | (refine WK.draw (ops := #[_, _, _, _, _, _, _, _, _, _, _, _]) [dq 0 0, dq 0 0, dq 0 0, dq 0 0, dm, dq 0 0, dq 1 0, dq 0 0, dq 0 0, dq 0 0, dq 0 0, dm] mixed (by kernel_rfl) ?_; refine autoA ?_) | (refine WK.draw (ops := #[_, _, _, _, _, _, _, _, _, _, _, _, _]) [dq 0 0, dq 0 0, dq 0 0, dq 0 0, dq 0 0, dq 0 0, dq 0 0, dq 0 0, dq 0 0, dq 0 0, dq 0 0, dq 0 0, dm] mixed (by kernel_rfl) ?_; refine autoA ?_))
        try exact trivial
        try exact cutA
    | 1, _ =>
      cases a
      all_goals
        have H := And.intro @f0 (And.intro @f1 @f2)
        refine autoA ?_
        repeat' (first | (refine WK.draw (ops := #[_, _, _, _, _, _, _]) [dq 0 0, dq 0 0, dq 0 0, dq 0 0, dq 0 0, dm, dq 0 0] mixed (by kernel_rfl) ?_; refine autoA ?_) | (refine WK.draw (ops := #[_, _, _, _, _, _, _, _, _, _, _, _]) [dq 0 0, dq 0 0, dq 0 0, dq 0 0, dm, dq 0 0, dq 1 0, dq 0 0, dq 0 0, dq 0 0, dq 0 0, dm] mixed (by kernel_rfl) ?_; refine autoA ?_) | (refine WK.draw (ops := #[_, _, _, _, _, _, _, _, _, _, _, _, _]) [dq 0 0, dq 0 0, dq 0 0, dq 0 0, dq 0 0, dq 0 0, dq 0 0, dq 0 0, dq 0 0, dq 0 0, dq 0 0, dq 0 0, dm] mixed (by kernel_rfl) ?_; refine autoA ?_))
        try exact trivial
        try exact cutA
  · rw [f2]
    refine WK.freeze 3 (by simp only [go_sem, seval, reduceCtorEq]; rfl) ?_
    have H := trivial
    refine autoA ?_
    repeat' (first | (refine WK.draw (ops := #[_, _, _, _, _, _, _]) [dq 0 0, dq 0 0, dq 0 0, dq 0 0, dq 0 0, dm, dq 0 0] mixed (by kernel_rfl) ?_; refine autoA ?_) | (refine WK.draw (ops := #[_, _, _, _, _, _, _, _, _, _, _, _]) [dq 0 0, dq 0 0, dq 0 0, dq 0 0, dm, dq 0 0, dq 1 0, dq 0 0, dq 0 0, dq 0 0, dq 0 0, dm] mixed (by kernel_rfl) ?_; refine autoA ?_) | (refine WK.draw (ops := #[_, _, _, _, _, _, _, _, _, _, _, _, _]) [dq 0 0, dq 0 0, dq 0 0, dq 0 0, dq 0 0, dq 0 0, dq 0 0, dq 0 0, dq 0 0, dq 0 0, dq 0 0, dq 0 0, dm] mixed (by kernel_rfl) ?_; refine autoA ?_))
    try exact trivial
    exact cut_none _
theorem table11 (v : Int) (g h : Fm) (ig : Ctr (C gl) 125 [encF g, w0A] True (.list false [.bool (cv g), .bool (cv g)])) (ih : Ctr (C gl) 125 [encF h, w0A] True (.list false [.bool (cv h), .bool (cv h)])) : PCall (C gl) 125 [encF (.mk 11 v [g, h]), w0A] (.list false [.bool (cv (.mk 11 v [g, h])), .bool (cv (.mk 11 v [g, h]))]) := by
  have e : cv (.mk 11 v [g, h]) = ((cv h)) := rfl
  rw [e]
  refine pcallX (callX_of b125 (by simp [Tryd.ntmps125]) ?_) (by simp only [AllCl, cl_encF, cl_agg, cl_list, cl_int, cl_bool, clE_nil, clE_cons, AV.cells, List.mem_cons, List.not_mem_nil, or_false, forall_eq_or_imp, forall_eq, and_true, and_self]) (by simp only [AllCl, cl_encF, cl_agg, cl_list, cl_int, cl_bool, clE_nil, clE_cons, AV.cells, List.mem_cons, List.not_mem_nil, or_false, forall_eq_or_imp, forall_eq, and_true, and_self])
  refine W.of ?_
  rw [Tryd.ntmps125]
  simp only [toK, codeOf, Tryd.f125, go_sem, seval, reduceCtorEq]
  have H := trivial
  refine autoA ?_
  repeat' (first | (refine WK.draw (ops := #[_, _, _, _, _, _, _]) [dq 0 0, dq 0 0, dq 0 0, dq 0 0, dq 0 0, dm, dq 0 0] mixed (by kernel_rfl) ?_; refine autoA ?_) | (refine WK.draw (ops := #[_, _, _, _, _, _, _, _, _, _, _, _]) [dq 0 0, dq 0 0, dq 0 0, dq 0 0, dm, dq 0 0, dq 1 0, dq 0 0, dq 0 0, dq 0 0, dq 0 0, dm] mixed (by kernel_rfl) ?_; refine autoA ?_) | (refine WK.draw (ops := #[_, _, _, _, _, _, _, _, _, _, _, _, _]) [dq 0 0, dq 0 0, dq 0 0, dq 0 0, dq 0 0, dq 0 0, dq 0 0, dq 0 0, dq 0 0, dq 0 0, dq 0 0, dq 0 0, dm] mixed (by kernel_rfl) ?_; refine autoA ?_))
  try exact trivial
  generalize cv g = a
  generalize cv h = b
  clear e
  have q := trivial
  have f0 : ∀ c, rw2 c 0 = [.bool false, .bool false] := fun _ => rfl
  have f1 : ∀ c, rw2 c 1 = [.bool c, .bool false] := fun _ => rfl
  have f2 : ∀ c, rw2 c 2 = [.bool c, .bool c] := fun _ => rfl
  have H := And.intro @f0 (And.intro @f1 @f2)
  refine rangeA (2) [2, 3, 5, 6, 7, 8, 9, 39] [] (fun i => []) (fun i => ((((Sto.none.add (.box [.int .i64 11, .int .i64 v, .list false (encFs [g, h])])).add (.box [.list false [], .list false [.int .i64 0]])).add (.row 1 [.bool false, .bool false] false)).add (.row 1 (rw2 b i) false))) ?_ ?_
  · intro i hi
    match i, hi with
    | 0, _ =>
      cases a <;> cases b
      all_goals
        have H := And.intro @f0 (And.intro @f1 @f2)
        refine autoA ?_
        repeat' (first | (refine WK.draw (ops := #[_, _, _, _, _, _, _]) [dq 0 0, dq 0 0, dq 0 0, dq 0 0, dq 0 0, dm, dq 0 0] mixed (by kernel_rfl) ?_; refine autoA ?_) | (refine WK.draw (ops := #[_, _, _, _, _, _, _, _, _, _, _, _]) [dq 0 0, dq 0 0, dq 0 0, dq 0 0, dm, dq 0 0, dq 1 0, dq 0 0, dq 0 0, dq 0 0, dq 0 0, dm] mixed (by kernel_rfl) ?_; refine autoA ?_) | (refine WK.draw (ops := #[_, _, _, _, _, _, _, _, _, _, _, _, _]) [dq 0 0, dq 0 0, dq 0 0, dq 0 0, dq 0 0, dq 0 0, dq 0 0, dq 0 0, dq 0 0, dq 0 0, dq 0 0, dq 0 0, dm] mixed (by kernel_rfl) ?_; refine autoA ?_))
        try exact trivial
        try exact cutA
    | 1, _ =>
      cases a <;> cases b
      all_goals
        have H := And.intro @f0 (And.intro @f1 @f2)
        refine autoA ?_
        repeat' (first | (refine WK.draw (ops := #[_, _, _, _, _, _, _]) [dq 0 0, dq 0 0, dq 0 0, dq 0 0, dq 0 0, dm, dq 0 0] mixed (by kernel_rfl) ?_; refine autoA ?_) | (refine WK.draw (ops := #[_, _, _, _, _, _, _, _, _, _, _, _]) [dq 0 0, dq 0 0, dq 0 0, dq 0 0, dm, dq 0 0, dq 1 0, dq 0 0, dq 0 0, dq 0 0, dq 0 0, dm] mixed (by kernel_rfl) ?_; refine autoA ?_) | (refine WK.draw (ops := #[_, _, _, _, _, _, _, _, _, _, _, _, _]) [dq 0 0, dq 0 0, dq 0 0, dq 0 0, dq 0 0, dq 0 0, dq 0 0, dq 0 0, dq 0 0, dq 0 0, dq 0 0, dq 0 0, dm] mixed (by kernel_rfl) ?_; refine autoA ?_))
        try exact trivial
        try exact cutA
  · rw [f2]
    refine WK.freeze 3 (by simp only [go_sem, seval, reduceCtorEq]; rfl) ?_
    have H := trivial
    refine autoA ?_
    repeat' (first | (refine WK.draw (ops := #[_, _, _, _, _, _, _]) [dq 0 0, dq 0 0, dq 0 0, dq 0 0, dq 0 0, dm, dq 0 0] mixed (by kernel_rfl) ?_; refine autoA ?_) | (refine WK.draw (ops := #[_, _, _, _, _, _, _, _, _, _, _, _]) [dq 0 0, dq 0 0, dq 0 0, dq 0 0, dm, dq 0 0, dq 1 0, dq 0 0, dq 0 0, dq 0 0, dq 0 0, dm] mixed (by kernel_rfl) ?_; refine autoA ?_) | (refine WK.draw (ops := #[_, _, _, _, _, _, _, _, _, _, _, _, _]) [dq 0 0, dq 0 0, dq 0 0, dq 0 0, dq 0 0, dq 0 0, dq 0 0, dq 0 0, dq 0 0, dq 0 0, dq 0 0, dq 0 0, dm] mixed (by kernel_rfl) ?_; refine autoA ?_))
    try exact trivial
    exact cut_none _
theorem table12 (v : Int) (g h : Fm) (ig : Ctr (C gl) 125 [encF g, w0A] True (.list false [.bool (cv g), .bool (cv g)])) (ih : Ctr (C gl) 125 [encF h, w0A] True (.list false [.bool (cv h), .bool (cv h)])) : PCall (C gl) 125 [encF (.mk 12 v [g, h]), w0A] (.list false [.bool (cv (.mk 12 v [g, h])), .bool (cv (.mk 12 v [g, h]))]) := by
  have e : cv (.mk 12 v [g, h]) = ((cv h)) := rfl
  rw [e]
  refine pcallX (callX_of b125 (by simp [Tryd.ntmps125]) ?_) (by simp only [AllCl, cl_encF, cl_agg, cl_list, cl_int, cl_bool, clE_nil, clE_cons, AV.cells, List.mem_cons, List.not_mem_nil, or_false, forall_eq_or_imp, forall_eq, and_true, and_self]) (by simp only [AllCl, cl_encF, cl_agg, cl_list, cl_int, cl_bool, clE_nil, clE_cons, AV.cells, List.mem_cons, List.not_mem_nil, or_false, forall_eq_or_imp, forall_eq, and_true, and_self])
  refine W.of ?_
  rw [Tryd.ntmps125]
  simp only [toK, codeOf, Tryd.f125, go_sem, seval, reduceCtorEq]
  have H := trivial
  refine autoA ?_
  repeat' (first | (refine WK.draw (ops := #[_, _, _, _, _, _, _]) [dq 0 0, dq 0 0, dq 0 0, dq 0 0, dq 0 0, dm, dq 0 0] mixed (by kernel_rfl) ?_; refine autoA ?_) | (refine WK.draw (ops := #[_, _, _, _, _, _, _, _, _, _, _, _]) [dq 0 0, dq 0 0, dq 0 0, dq 0 0, dm, dq 0 0, dq 1 0, dq 0 0, dq 0 0, dq 0 0, dq 0 0, dm] mixed (by kernel_rfl) ?_; refine autoA ?_) | (refine WK.draw (ops := #[_, _, _, _, _, _, _, _, _, _, _, _, _]) [dq 0 0, dq 0 0, dq 0 0, dq 0 0, dq 0 0, dq 0 0, dq 0 0, dq 0 0, dq 0 0, dq 0 0, dq 0 0, dq 0 0, dm] mixed (by kernel_rfl) ?_; refine autoA ?_))
  try exact trivial
  generalize cv g = a
  generalize cv h = b
  clear e
  have q := trivial
  have f0 : ∀ c, rw2 c 0 = [.bool false, .bool false] := fun _ => rfl
  have f1 : ∀ c, rw2 c 1 = [.bool c, .bool false] := fun _ => rfl
  have f2 : ∀ c, rw2 c 2 = [.bool c, .bool c] := fun _ => rfl
  have H := And.intro @f0 (And.intro @f1 @f2)
  refine rangeA (2) [2, 3, 5, 6, 7, 8, 9, 39] [] (fun i => []) (fun i => ((((Sto.none.add (.box [.int .i64 12, .int .i64 v, .list false (encFs [g, h])])).add (.box [.list false [], .list false [.int .i64 0]])).add (.row 1 [.bool false, .bool false] false)).add (.row 1 (rw2 b i) false))) ?_ ?_
  · intro i hi
    match i, hi with
    | 0, _ =>
      cases a <;> cases b
      all_goals
        have H := And.intro @f0 (And.intro @f1 @f2)
        refine autoA ?_
        repeat' (first | (refine WK.draw (ops := #[_, _, _, _, _, _, _]) [dq 0 0, dq 0 0, dq 0 0, dq 0 0, dq 0 0, dm, dq 0 0] mixed (by kernel_rfl) ?_; refine autoA ?_) | (refine WK.draw (ops := #[_, _, _, _, _, _, _, _, _, _, _, _]) [dq 0 0, dq 0 0, dq 0 0, dq 0 0, dm, dq 0 0, dq 1 0, dq 0 0, dq 0 0, dq 0 0, dq 0 0, dm] mixed (by kernel_rfl) ?_; refine autoA ?_) | (refine WK.draw (ops := #[_, _, _, _, _, _, _, _, _, _, _, _, _]) [dq 0 0, dq 0 0, dq 0 0, dq 0 0, dq 0 0, dq 0 0, dq 0 0, dq 0 0, dq 0 0, dq 0 0, dq 0 0, dq 0 0, dm] mixed (by kernel_rfl) ?_; refine autoA ?_))
        try exact trivial
        try exact cutA
    | 1, _ =>
      cases a <;> cases b
      all_goals
        have H := And.intro @f0 (And.intro @f1 @f2)
        refine autoA ?_
        repeat' (first | (refine WK.draw (ops := #[_, _, _, _, _, _, _]) [dq 0 0, dq 0 0, dq 0 0, dq 0 0, dq 0 0, dm, dq 0 0] mixed (by kernel_rfl) ?_; refine autoA ?_) | (refine WK.draw (ops := #[_, _, _, _, _, _, _, _, _, _, _, _]) [dq 0 0, dq 0 0, dq 0 0, dq 0 0, dm, dq 0 0, dq 1 0, dq 0 0, dq 0 0, dq 0 0, dq 0 0, dm] mixed (by kernel_rfl) ?_; refine autoA ?_) | (refine WK.draw (ops := #[_, _, _, _, _, _, _, _, _, _, _, _, _]) [dq 0 0, dq 0 0, dq 0 0, dq 0 0, dq 0 0, dq 0 0, dq 0 0, dq 0 0, dq 0 0, dq 0 0, dq 0 0, dq 0 0, dm] mixed (by kernel_rfl) ?_; refine autoA ?_))
        try exact trivial
        try exact cutA
  · rw [f2]
    refine WK.freeze 3 (by simp only [go_sem, seval, reduceCtorEq]; rfl) ?_
    have H := trivial
    refine autoA ?_
    repeat' (first | (refine WK.draw (ops := #[_, _, _, _, _, _, _]) [dq 0 0, dq 0 0, dq 0 0, dq 0 0, dq 0 0, dm, dq 0 0] mixed (by kernel_rfl) ?_; refine autoA ?_) | (refine WK.draw (ops := #[_, _, _, _, _, _, _, _, _, _, _, _]) [dq 0 0, dq 0 0, dq 0 0, dq 0 0, dm, dq 0 0, dq 1 0, dq 0 0, dq 0 0, dq 0 0, dq 0 0, dm] mixed (by kernel_rfl) ?_; refine autoA ?_) | (refine WK.draw (ops := #[_, _, _, _, _, _, _, _, _, _, _, _, _]) [dq 0 0, dq 0 0, dq 0 0, dq 0 0, dq 0 0, dq 0 0, dq 0 0, dq 0 0, dq 0 0, dq 0 0, dq 0 0, dq 0 0, dm] mixed (by kernel_rfl) ?_; refine autoA ?_))
    try exact trivial
    exact cut_none _
theorem table13 (v : Int) (g h : Fm) (ig : Ctr (C gl) 125 [encF g, w0A] True (.list false [.bool (cv g), .bool (cv g)])) (ih : Ctr (C gl) 125 [encF h, w0A] True (.list false [.bool (cv h), .bool (cv h)])) : PCall (C gl) 125 [encF (.mk 13 v [g, h]), w0A] (.list false [.bool (cv (.mk 13 v [g, h])), .bool (cv (.mk 13 v [g, h]))]) := by
  have e : cv (.mk 13 v [g, h]) = ((cv g) || (cv h)) := rfl
  rw [e]
  refine pcallX (callX_of b125 (by simp [Tryd.ntmps125]) ?_) (by simp only [AllCl, cl_encF, cl_agg, cl_list, cl_int, cl_bool, clE_nil, clE_cons, AV.cells, List.mem_cons, List.not_mem_nil, or_false, forall_eq_or_imp, forall_eq, and_true, and_self]) (by simp only [AllCl, cl_encF, cl_agg, cl_list, cl_int, cl_bool, clE_nil, clE_cons, AV.cells, List.mem_cons, List.not_mem_nil, or_false, forall_eq_or_imp, forall_eq, and_true, and_self])
  refine W.of ?_
  rw [Tryd.ntmps125]
  simp only [toK, codeOf, Tryd.f125, go_sem, seval, reduceCtorEq]
  have H := trivial
  refine autoA ?_
  repeat' (first | (refine WK.draw (ops := #[_, _, _, _, _, _, _]) [dq 0 0, dq 0 0, dq 0 0, dq 0 0, dq 0 0, dm, dq 0 0] mixed (by kernel_rfl) ?_; refine autoA ?_) | (refine WK.draw (ops := #[_, _, _, _, _, _, _, _, _, _, _, _]) [dq 0 0, dq 0 0, dq 0 0, dq 0 0, dm, dq 0 0, dq 1 0, dq 0 0, dq 0 0, dq 0 0, dq 0 0, dm] mixed (by kernel_rfl) ?_; refine autoA ?_) | (refine WK.draw (ops := #[_, _, _, _, _, _, _, _, _, _, _, _, _]) [dq 0 0, dq 0 0, dq 0 0, dq 0 0, dq 0 0, dq 0 0, dq 0 0, dq 0 0, dq 0 0, dq 0 0, dq 0 0, dq 0 0, dm] mixed (by kernel_rfl) ?_; refine autoA ?_))
  try exact trivial
  generalize cv g = a
  generalize cv h = b
  obtain ⟨c, hc⟩ : ∃ c : Bool, (a || b) = c := ⟨_, rfl⟩
  rw [hc]
  have f0 : ∀ c, rw2 c 0 = [.bool false, .bool false] := fun _ => rfl
  have f1 : ∀ c, rw2 c 1 = [.bool c, .bool false] := fun _ => rfl
  have f2 : ∀ c, rw2 c 2 = [.bool c, .bool c] := fun _ => rfl
  have H := And.intro @f0 (And.intro @f1 @f2)
  refine rangeA (2) [2, 3, 5, 6, 7, 8, 9, 39] [] (fun i => []) (fun i => ((((Sto.none.add (.box [.int .i64 13, .int .i64 v, .list false (encFs [g, h])])).add (.box [.list false [], .list false [.int .i64 0]])).add (.row 1 [.bool false, .bool false] false)).add (.row 1 (rw2 c i) false))) ?_ ?_
  · intro i hi
    match i, hi with
    | 0, _ =>
      cases a <;> cases b <;> (simp at hc; subst hc)
      all_goals
        have H := And.intro @f0 (And.intro @f1 @f2)
        refine autoA ?_
        repeat' (first | (refine WK.draw (ops := #[_, _, _, _, _, _, _]) [dq 0 0, dq 0 0, dq 0 0, dq 0 0, dq 0 0, dm, dq 0 0] mixed (by kernel_rfl) ?_; refine autoA ?_) | (refine WK.draw (ops := #[_, _, _, _, _, _, _, _, _, _, _, _]) [dq 0 0, dq 0 0, dq 0 0, dq 0 0, dm, dq 0 0, dq 1 0, dq 0 0, dq 0 0, dq 0 0, dq 0 0, dm] mixed (by kernel_rfl) ?_; refine autoA ?_) | (refine WK.draw (ops := #[_, _, _, _, _, _, _, _, _, _, _, _, _]) [dq 0 0, dq 0 0, dq 0 0, dq 0 0, dq 0 0, dq 0 0, dq 0 0, dq 0 0, dq 0 0, dq 0 0, dq 0 0, dq 0 0, dm] mixed (by kernel_rfl) ?_; refine autoA ?_))
        try exact trivial
        try exact cutA
    | 1, _ =>
      cases a <;> cases b <;> (simp at hc; subst hc)
      all_goals
        have H := And.intro @f0 (And.intro @f1 @f2)
        refine autoA ?_
        repeat' (first | (refine WK.draw (ops := #[_, _, _, _, _, _, _]) [dq 0 0, dq 0 0, dq 0 0, dq 0 0, dq 0 0, dm, dq 0 0] mixed (by kernel_rfl) ?_; refine autoA ?_) | (refine WK.draw (ops := #[_, _, _, _, _, _, _, _, _, _, _, _]) [dq 0 0, dq 0 0, dq 0 0, dq 0 0, dm, dq 0 0, dq 1 0, dq 0 0, dq 0 0, dq 0 0, dq 0 0, dm] mixed (by kernel_rfl) ?_; refine autoA ?_) | (refine WK.draw (ops := #[_, _, _, _, _, _, _, _, _, _, _, _, _]) [dq 0 0, dq 0 0, dq 0 0, dq 0 0, dq 0 0, dq 0 0, dq 0 0, dq 0 0, dq 0 0, dq 0 0, dq 0 0, dq 0 0, dm] mixed (by kernel_rfl) ?_; refine autoA ?_))
        try exact trivial
        try exact cutA
  · rw [f2]
    refine WK.freeze 3 (by simp only [go_sem, seval, reduceCtorEq]; rfl) ?_
    have H := trivial
    refine autoA ?_
    repeat' (first | (refine WK.draw (ops := #[_, _, _, _, _, _, _]) [dq 0 0, dq 0 0, dq 0 0, dq 0 0, dq 0 0, dm, dq 0 0] mixed (by kernel_rfl) ?_; refine autoA ?_) | (refine WK.draw (ops := #[_, _, _, _, _, _, _, _, _, _, _, _]) [dq 0 0, dq 0 0, dq 0 0, dq 0 0, dm, dq 0 0, dq 1 0, dq 0 0, dq 0 0, dq 0 0, dq 0 0, dm] mixed (by kernel_rfl) ?_; refine autoA ?_) | (refine WK.draw (ops := #[_, _, _, _, _, _, _, _, _, _, _, _, _]) [dq 0 0, dq 0 0, dq 0 0, dq 0 0, dq 0 0, dq 0 0, dq 0 0, dq 0 0, dq 0 0, dq 0 0, dq 0 0, dq 0 0, dm] mixed (by kernel_rfl) ?_; refine autoA ?_))
    try exact trivial
    exact cut_none _
theorem table_ok (f : Fm) : okA f → noV f → PCall (C gl) 125 [encF f, w0A] (.list false [.bool (cv f), .bool (cv f)]) := by
  induction f using Fm.ind with
  | h o v l ih =>
    intro hA hn
    have h3 := args012 hA
    have n2 := noV_iff.1 hn
    have ic : ∀ g ∈ l, Ctr (C gl) 125 [encF g, w0A] True (.list false [.bool (cv g), .bool (cv g)]) := fun g hg => ⟨fun _ => ih g hg (okA_sub hA hg) (n2.2 g hg)⟩
    simp only [fm_args] at h3
    rcases h3 with rfl | ⟨g, rfl⟩ | ⟨g, h, rfl⟩
    · rcases ops0 hA with rfl | rfl | rfl
      · exact table0 v
      · exact table1 v
      · exact absurd rfl n2.1
    · have c1 := ic g (by simp)
      rcases ops1 hA with rfl | rfl | rfl | rfl
      · exact table3 v g c1
      · exact table8 v g c1
      · exact table9 v g c1
      · exact table10 v g c1
    · have c1 := ic g (by simp)
      have c2 := ic h (by simp)
      rcases ops2 hA with rfl | rfl | rfl | rfl | rfl | rfl | rfl
      · exact table4 v g h c1 c2
      · exact table5 v g h c1 c2
      · exact table6 v g h c1 c2
      · exact table7 v g h c1 c2
      · exact table11 v g h c1 c2
      · exact table12 v g h c1 c2
      · exact table13 v g h c1 c2
instance table_i (f : Fm) : Ctr (C gl) 125 [encF f, w0A] (okA f ∧ noV f) (.list false [.bool (cv f), .bool (cv f)]) := ⟨fun h => table_ok f h.1 h.2⟩
theorem is3_ok (f : Fm) (hA : okA f) (hn : noV f) : PCall (C gl) 66 [encF f, w0A, .int .i64 0] (.bool (cv f)) := by
  refine pcallX (callX_of b66 (by simp [Tryd.ntmps66]) ?_) (by simp only [AllCl, cl_encF, cl_agg, cl_list, cl_int, cl_bool, clE_nil, clE_cons, AV.cells, List.mem_cons, List.not_mem_nil, or_false, forall_eq_or_imp, forall_eq, and_true, and_self]) (.bool _)
  refine W.of ?_
  rw [Tryd.ntmps66]
  simp only [toK, codeOf, Tryd.f66, go_sem, seval, reduceCtorEq]
  have H := And.intro @hA @hn
  refine autoA ?_
  repeat' (first | (refine WK.draw0 (ops := #[_, _, _, _, _, _, _, _, _, _, _, _, _, _]) mixed (by kernel_rfl) ?_; refine autoA ?_))
  try exact trivial
  exact cut_none _
instance is3_i (f : Fm) : Ctr (C gl) 66 [encF f, w0A, .int .i64 0] (okA f ∧ noV f) (.bool (cv f)) := ⟨fun h => is3_ok f h.1 h.2⟩
end
end Go.Sx
