import Derived.Test.YtlhdjjnjhpfgoaaDoorQTtB
import Derived.Test.YtlhdjjnjhpfgoaaDoorQBdW
import Derived.Test.YtlhdjjnjhpfgoaaDoorLgAv
set_option maxRecDepth 100000
set_option maxHeartbeats 4000000
set_option linter.unusedSimpArgs false
set_option linter.unusedVariables false
set_option linter.unnecessarySimpa false
namespace Go.Sx
open Go Go.Lg Go.Proofs
theorem b55 {gl : GL} : Body (C gl).P 55 Tryd.f55 (codeOf Tryd.f55) := ⟨Tryd.func55, by kernel_rfl, by kernel_rfl⟩
theorem b38 {gl : GL} : Body (C gl).P 38 Tryd.f38 (codeOf Tryd.f38) := ⟨Tryd.func38, by kernel_rfl, by kernel_rfl⟩
theorem b27 {gl : GL} : Body (C gl).P 27 Tryd.f27 (codeOf Tryd.f27) := ⟨Tryd.func27, by kernel_rfl, by kernel_rfl⟩
theorem b26 {gl : GL} : Body (C gl).P 26 Tryd.f26 (codeOf Tryd.f26) := ⟨Tryd.func26, by kernel_rfl, by kernel_rfl⟩
theorem b11 {gl : GL} : Body (C gl).P 11 Tryd.f11 (codeOf Tryd.f11) := ⟨Tryd.func11, by kernel_rfl, by kernel_rfl⟩
theorem b12 {gl : GL} : Body (C gl).P 12 Tryd.f12 (codeOf Tryd.f12) := ⟨Tryd.func12, by kernel_rfl, by kernel_rfl⟩
def letB (x : Int) : Bool := decide (x ≥ 0) && decide (x < 64)
def validW (s l : List Int) : Bool := !(l.length == 0) && (decide (s.length + l.length ≤ 200) && (s ++ l).all letB)
theorem clE_W (s l : List Int) : ClE [encW s l] := by
  intro x hx c hc
  rw [List.mem_singleton] at hx
  subst hx
  cases cl_encW s l with
  | agg _ h => exact h c hc
section
variable {gl : GL}
theorem letter_ok (x : Int) : PCall (C gl) 55 [.int .i64 x, .int .i64 6] (.bool (letB x)) := by
  refine pcallX (callX_of b55 (by simp [Tryd.ntmps55]) ?_) (by simp only [AllCl, cl_int, and_true]) (.bool _)
  refine W.of ?_
  rw [Tryd.ntmps55]
  simp only [toK, codeOf, Tryd.f55, go_sem, seval, reduceCtorEq]
  unfold letB
  cases h1 : decide (x ≥ 0) with
  | false =>
    have H := @h1
    refine autoA ?_
    try exact trivial
    try exact cut_none _
  | true =>
    have H := @h1
    refine autoA ?_
    try exact trivial
    rw [show shlI IntKind.i64 1 6 = 64 from by decide]
instance letter_i (x : Int) : Ctr (C gl) 55 [.int .i64 x, .int .i64 6] True (.bool (letB x)) := ⟨fun _ => letter_ok x⟩
theorem few01_ok (s l : List Int) (h : WB s l) : PCall (C gl) 26 [.int .i64 60, .list false [encW s l]] (.bool (decide (s.length + l.length ≤ 60))) := by
  refine pcallX (callX_of b26 (by simp [Tryd.ntmps26]) ?_) (by simp only [AllCl, cl_int, cl_list, and_true, true_and]; exact clE_W s l) (.bool _)
  obtain ⟨h1, h2⟩ := h
  have hs := int_len s
  have hl := int_len l
  have w1 : IntKind.i64.wrap ((s.length : Int) + (l.length : Int)) = ((s.length + l.length : Nat) : Int) := by rw [wrap_lt (by omega) (by omega)]; omega
  have q : decide (((s.length + l.length : Nat) : Int) > 60) = !decide (s.length + l.length ≤ 60) := by
    by_cases hc : s.length + l.length ≤ 60
    · rw [decide_eq_true hc]; exact decide_eq_false (by omega)
    · rw [decide_eq_false hc]; exact decide_eq_true (by omega)
  clear h1 h2
  generalize hb : decide (s.length + l.length ≤ 60) = b at *
  refine W.of ?_
  rw [Tryd.ntmps26]
  simp only [toK, codeOf, Tryd.f26, go_sem, seval, reduceCtorEq]
  have H := trivial
  refine autoA ?_
  try exact trivial
  refine rangeAI (1) [0, 7] [] (fun i => []) (fun i => Sto.none) (fun i => (i = 1 → b = true)) ?_ ?_
  · intro i hi hI
    obtain rfl : i = 0 := by omega
    cases b with
    | false =>
      have H := And.intro @encW_eq (And.intro @hs (And.intro @hl (And.intro @w1 @q)))
      refine autoA ?_
      try exact trivial
      try exact cut_none _
    | true =>
      have H := And.intro @encW_eq (And.intro @hs (And.intro @hl (And.intro @w1 @q)))
      refine autoA ?_
      try exact trivial
      try exact cutA
  · intro hI
    rw [hI rfl]
    have H := trivial
    refine autoA ?_
    try exact trivial
    try exact cut_none _
theorem few4_ok (f : Fm) (s l : List Int) (hs : Shrt f) (h : WB s l) : PCall (C gl) 11 [encF f, encW s l] (.bool (decide (nodesR 100 f ≤ 100) && decide (s.length + l.length ≤ 60))) := by
  have hfew : Ctr (C gl) 5 [encF f, .int .i64 100] True (.bool (decide (nodesR 100 f ≤ 100))) := ⟨fun _ => fewR_ok f hs 100 (by omega) (by omega)⟩
  have hf1 : Ctr (C gl) 26 [.int .i64 60, .list false [encW s l]] True (.bool (decide (s.length + l.length ≤ 60))) := ⟨fun _ => few01_ok s l h⟩
  rw [encW_eq] at hf1
  refine pcallX (callX_of b11 (by simp [Tryd.ntmps11]) ?_) (by simp only [AllCl, cl_encF, cl_encW, and_true]) (.bool _)
  refine W.of ?_
  rw [Tryd.ntmps11]
  simp only [toK, codeOf, Tryd.f11, go_sem, seval, reduceCtorEq]
  cases k1 : decide (nodesR 100 f ≤ 100) with
  | false =>
    have H := And.intro @k1 @encW_eq
    refine autoA ?_
    try exact trivial
    try exact cut_none _
  | true =>
    have H := And.intro @k1 @encW_eq
    refine autoA ?_
    try exact trivial
    try exact cut_none _
theorem valid01_ok (s l : List Int) (h : WB s l) : PCall (C gl) 38 [encW s l, .int .i64 6] (.bool (validW s l)) := by
  refine pcallX (callX_of b38 (by simp [Tryd.ntmps38]) ?_) (by simp only [AllCl, cl_encW, cl_int, and_true]) (.bool _)
  obtain ⟨h1, h2⟩ := h
  have hs := int_len s
  have hl := int_len l
  have w1 : IntKind.i64.wrap ((s.length : Int) + (l.length : Int)) = ((s.length + l.length : Nat) : Int) := by rw [wrap_lt (by omega) (by omega)]; omega
  refine W.of ?_
  rw [Tryd.ntmps38]
  simp only [toK, codeOf, Tryd.f38, go_sem, seval, reduceCtorEq]
  unfold validW
  cases q1 : (l.length == 0) with
  | true =>
    have q1' : ((l.length : Int) == 0) = true := by rw [eq_of_beq q1]; rfl
    clear h1 h2
    have H := And.intro @encW_eq (And.intro @hs (And.intro @hl (And.intro @w1 @q1')))
    refine autoA ?_
    repeat' (first | (refine WK.draw (ops := #[_, _, _, _, _, _, _, _, _]) [dq 0 0, dq 0 0, dq 0 0, dm, dq 0 0, dq 1 0, dm, dq 0 0, dq 0 0] mixed (by kernel_rfl) ?_; refine autoA ?_))
    try exact trivial
    try exact cut_none _
  | false =>
    have q1' : ((l.length : Int) == 0) = false := beq_eq_false_iff_ne.2 (by have := beq_eq_false_iff_ne.1 q1; omega)
    by_cases q2 : s.length + l.length ≤ 200
    · have q2' : decide (((s.length + l.length : Nat) : Int) > 200) = false := decide_eq_false (by omega)
      rw [decide_eq_true q2]
      have hb1 : s.length ≤ 200 := by omega
      clear h1 h2
      have hok : ∀ s : List Int, OKEs 1 (s.map intE) = True := fun s => eq_true (okes_map fun _ => by simp only [intE, go_sem, seval, reduceCtorEq])
      have hbe : ∀ (m : Nat) (s : List Int), BelE m (s.map intE) = True := fun m s => eq_true (belE_map (fun _ => .int _ _) _)
      have hap : s.map intE ++ l.map intE = (s ++ l).map intE := (List.map_append ..).symm
      have hln := int_len (s ++ l)
      have hl2 : (s ++ l).length = s.length + l.length := List.length_append
      have H := And.intro @encW_eq (And.intro @hs (And.intro @hl (And.intro @w1 (And.intro @q1' (And.intro @q2' @hok)))))
      refine autoA ?_
      repeat' (first | (refine WK.draw (ops := #[_, _, _, _, _, _, _, _, _]) [dq 0 0, dq 0 0, dq 0 0, dm, dq 0 0, dq 1 0, dm, dq 0 0, dq 0 0] mixed (by kernel_rfl) ?_; refine autoA ?_))
      try exact trivial
      refine appD_full (f := _) (by simp only [go_sem, seval, reduceCtorEq, hs, hl, hok]; rfl) (by simp only [go_sem, seval, reduceCtorEq, hs, hl, hok]; rfl)  ?_ (by simp only [go_sem, seval, reduceCtorEq, hs, hl, hok]; rfl) (by simp only [go_sem, seval, reduceCtorEq, hs, hl, hok]) ?_ (by kernel_rfl) (by simp only [go_sem, seval, reduceCtorEq, hs, hl, hok, List.length_map, List.length_take, List.length_range, List.length_append, List.length_cons, List.length_nil]; first | done | omega) (by simp only [go_sem, seval, reduceCtorEq, hs, hl, hok, List.length_map, List.length_take, List.length_range, List.length_append, List.length_cons, List.length_nil]; first | done | omega) ?_
      all_goals (try simp only [go_sem, seval, reduceCtorEq, hs, hl, hok])
      all_goals (try (refine okes_map fun _ => ?_; simp only [go_sem, seval, reduceCtorEq, hs, hl, hok]; done))
      all_goals try exact of_eq_true (hok _)
      have H := And.intro @hs (And.intro @hl @hok)
      refine autoA ?_
      repeat' (first | (refine WK.draw (ops := #[_, _, _, _, _, _, _, _, _]) [dq 0 0, dq 0 0, dq 0 0, dm, dq 0 0, dq 1 0, dm, dq 0 0, dq 0 0] mixed (by kernel_rfl) ?_; refine autoA ?_))
      try exact trivial
      rw [hap]
      generalize hL : s ++ l = L at *
      refine rangeAI (L.length) [1, 35] [] (fun i => []) (fun i => ((Sto.none.add (.box [.list false (s.map intE), .list false (l.map intE)])).add (.tok 1 (s.length + l.length)))) (fun i => (∀ x ∈ L.take i, letB x = true)) ?_ ?_
      · intro i hi hI
        have e := int_get L i hi
        have e2 : L.getD i 0 = L[i] := by rw [List.getD_eq_getElem?_getD, List.getElem?_eq_getElem hi]; rfl
        rw [e2] at e
        cases q : letB L[i] with
        | false =>
          have ha : L.all letB = false := by rw [List.all_eq_false]; exact ⟨L[i], List.getElem_mem hi, by rw [q]; exact Bool.false_ne_true⟩
          rw [ha]
          have H := And.intro @hi (And.intro @e (And.intro @q @hln))
          refine autoA ?_
          repeat' (first | (refine WK.draw (ops := #[_, _, _, _, _, _, _, _, _]) [dq 0 0, dq 0 0, dq 0 0, dm, dq 0 0, dq 1 0, dm, dq 0 0, dq 0 0] mixed (by kernel_rfl) ?_; refine autoA ?_))
          try exact trivial
          try exact cut_none _
        | true =>
          have hn : ∀ x ∈ L.take (i + 1), letB x = true := fun g hg => by
            rw [← List.take_append_getElem hi, List.mem_append, List.mem_singleton] at hg
            rcases hg with hg | rfl
            · exact hI g hg
            · exact q
          have H := And.intro @hi (And.intro @e (And.intro @q @hln))
          refine autoA ?_
          repeat' (first | (refine WK.draw (ops := #[_, _, _, _, _, _, _, _, _]) [dq 0 0, dq 0 0, dq 0 0, dm, dq 0 0, dq 1 0, dm, dq 0 0, dq 0 0] mixed (by kernel_rfl) ?_; refine autoA ?_))
          try exact trivial
          try first | exact hn | exact ⟨hn, cutA⟩ | exact cutA
      · intro hI
        rw [List.take_length] at hI
        have ha : L.all letB = true := by rw [List.all_eq_true]; exact hI
        rw [ha]
        have H := trivial
        refine autoA ?_
        repeat' (first | (refine WK.draw (ops := #[_, _, _, _, _, _, _, _, _]) [dq 0 0, dq 0 0, dq 0 0, dm, dq 0 0, dq 1 0, dm, dq 0 0, dq 0 0] mixed (by kernel_rfl) ?_; refine autoA ?_))
        try exact trivial
        try exact cut_none _
    · have q2' : decide (((s.length + l.length : Nat) : Int) > 200) = true := decide_eq_true (by omega)
      rw [decide_eq_false q2]
      clear h1 h2
      have H := And.intro @encW_eq (And.intro @hs (And.intro @hl (And.intro @w1 (And.intro @q1' @q2'))))
      refine autoA ?_
      repeat' (first | (refine WK.draw (ops := #[_, _, _, _, _, _, _, _, _]) [dq 0 0, dq 0 0, dq 0 0, dm, dq 0 0, dq 1 0, dm, dq 0 0, dq 0 0] mixed (by kernel_rfl) ?_; refine autoA ?_))
      try exact trivial
      try exact cut_none _
theorem is01_ok (s l : List Int) (h : WB s l) : PCall (C gl) 27 [encW s l] (.bool (validW s l)) := by
  have hv : Ctr (C gl) 38 [encW s l, .int .i64 6] True (.bool (validW s l)) := ⟨fun _ => valid01_ok s l h⟩
  rw [encW_eq] at hv
  refine pcallX (callX_of b27 (by simp [Tryd.ntmps27]) ?_) (by simp only [AllCl, cl_encW, and_true]) (.bool _)
  refine W.of ?_
  rw [Tryd.ntmps27]
  simp only [toK, codeOf, Tryd.f27, go_sem, seval, reduceCtorEq]
  have H := @encW_eq
  refine autoA ?_
  try exact trivial
  try exact cut_none _
noncomputable def hldS (f : Fm) (s l : List Int) (k : Int) : Bool × Int := if validF f 6 = true ∧ validW s l = true then (if k < 0 then (false, 6) else (svB s l f k.toNat, 0)) else (false, 1)
theorem validW_ok {s l : List Int} (h : validW s l = true) : WOK s l := by
  unfold validW at h
  simp only [Bool.and_eq_true, Bool.not_eq_true', beq_eq_false_iff_ne, decide_eq_true_eq] at h
  exact ⟨by omega, by omega⟩
theorem holds3_ok (f : Fm) (s l : List Int) (k : Int) (hk : k < 9223372036854775808) (hs : Shrt f) (h : WB s l) : PCall (C gl) 12 [encF f, encW s l, .int .i64 k] (.tup [.bool (hldS f s l k).1, .int .i64 (hldS f s l k).2]) := by
  have hi : Ctr (C gl) 8 [encF f] True (.bool (validF f 6)) := ⟨fun _ => isR_ok f hs⟩
  have hw : Ctr (C gl) 27 [encW s l] True (.bool (validW s l)) := ⟨fun _ => is01_ok s l h⟩
  refine pcallX (callX_of b12 (by simp [Tryd.ntmps12]) ?_) (by simp only [AllCl, cl_encF, cl_encW, cl_int, and_true]) (by simp only [cl_tup, AllCl, cl_bool, cl_int, and_true])
  rw [encW_eq] at hw
  refine W.of ?_
  rw [Tryd.ntmps12]
  simp only [toK, codeOf, Tryd.f12, go_sem, seval, reduceCtorEq]
  cases hv : validF f 6 with
  | false =>
    have e : hldS f s l k = (false, 1) := by unfold hldS; rw [if_neg (fun h => by rw [hv] at h; exact absurd h.1 Bool.false_ne_true)]
    rw [e]
    have H := And.intro @encW_eq @hv
    refine autoA ?_
    try exact trivial
    try exact cut_none _
  | true =>
  cases hx : validW s l with
  | false =>
    have e : hldS f s l k = (false, 1) := by unfold hldS; rw [if_neg (fun h => by rw [hx] at h; exact absurd h.2 Bool.false_ne_true)]
    rw [e]
    have H := And.intro @encW_eq (And.intro @hv @hx)
    refine autoA ?_
    try exact trivial
    try exact cut_none _
  | true =>
  by_cases hk0 : k < 0
  · have e : hldS f s l k = (false, 6) := by unfold hldS; rw [if_pos ⟨hv, hx⟩, if_pos hk0]
    have q : decide (k < 0) = true := decide_eq_true hk0
    rw [e]
    have H := And.intro @encW_eq (And.intro @hv (And.intro @hx @q))
    refine autoA ?_
    try exact trivial
    try exact cut_none _
  · have e : hldS f s l k = (svB s l f k.toNat, 0) := by unfold hldS; rw [if_pos ⟨hv, hx⟩, if_neg hk0]
    have q : decide (k < 0) = false := decide_eq_false hk0
    have hkk : k = (k.toNat : Int) := by omega
    have h3 : Ctr (C gl) 15 [encF f, encW s l, .int .i64 k] True (.bool (svB s l f k.toNat)) := ⟨fun _ => by
      have := is_ok' (gl := gl) s l (validW_ok hx) f (valid_both hv).2 k.toNat (by omega)
      rw [← hkk] at this
      exact this⟩
    rw [encW_eq] at h3
    rw [e]
    clear hk hkk
    have H := And.intro @encW_eq (And.intro @hv (And.intro @hx @q))
    refine autoA ?_
    try exact trivial
    try exact cut_none _
end
end Go.Sx

set_option maxRecDepth 100000
set_option maxHeartbeats 4000000
set_option linter.unusedSimpArgs false
set_option linter.unusedVariables false
set_option linter.unnecessarySimpa false
namespace Go.Sx
open Go Go.Lg Go.Proofs
theorem b4 {gl : GL} : Body (C gl).P 4 Tryd.f4 (codeOf Tryd.f4) := ⟨Tryd.func4, by kernel_rfl, by kernel_rfl⟩
theorem svB_same {s l : List Int} {f g : Fm} (h : SV (wdS s l) f g) (k : Nat) : svB s l g k = svB s l f k := by
  rw [Bool.eq_iff_iff, svB_iff, svB_iff]; exact iff_of_eq (congrFun h k)
/-- What a rewriting answers: an error, or a formula that says the same. -/
structure RwOK (s l : List Int) (f : Fm) (k : Nat) (q : Fm × Int) : Prop where
  shrt : Shrt q.1
  ok : q.2 = 0 → validF q.1 6 = true ∧ svB s l q.1 k = svB s l f k
theorem shrt_okA {f : Fm} (h : okA f) : Shrt f := shrt_of_shor _ (shor_okA _ h)
theorem shrt_fz : Shrt fz := shrt_okA okA_fz
theorem rw_sim {s l : List Int} {f : Fm} (hv : validF f 6 = true) (k : Nat) : RwOK s l f k (simS f) := by
  have hA := (valid_both hv).2
  have e : simS f = (simF f, 0) := by unfold simS; rw [if_pos hv]
  rw [e]
  obtain ⟨q1, q2, q3⟩ := simF_spec _ f (Nat.le_refl _) hA
  exact ⟨shrt_okA q1, fun _ => ⟨by rw [valid_nN q1]; exact decide_eq_true (by have : nN f ≤ 60 := ((validF_iff f 6).1 hv).2.2.1; omega), svB_same (sv_sim _ f (Nat.le_refl _) hA) k⟩⟩
theorem rw_push {s l : List Int} {f : Fm} (hv : validF f 6 = true) (k : Nat) : RwOK s l f k (pshS f) := by
  have hA := (valid_both hv).2
  have hA2 := okA_psh (nN f) f 0 (Nat.le_refl _) hA
  have e : pshS f = fitS (pshF (nN f) f 0) := by unfold pshS; rw [if_pos hv]
  have hsv := sv_psh (W := wdS s l) (nN f) f 0 (Nat.le_refl _) hA
  rw [e]
  unfold fitS
  by_cases h : validF (pshF (nN f) f 0) 6 = true
  · rw [if_pos h]; exact ⟨shrt_okA hA2, fun _ => ⟨h, svB_same hsv k⟩⟩
  · rw [if_neg h]; exact ⟨shrt_fz, fun h => by cases h⟩
theorem rw_unt {s l : List Int} {f : Fm} (hv : validF f 6 = true) (k : Nat) : RwOK s l f k (untS f) := by
  have hA := (valid_both hv).2
  have hA2 := okA_unt f hA
  unfold untS
  rw [if_pos hv]
  by_cases h : nN (untF f) > 60
  · rw [if_pos h]; exact ⟨shrt_fz, fun h => by cases h⟩
  · rw [if_neg h]
    exact ⟨shrt_okA hA2, fun _ => ⟨by rw [valid_nN hA2]; exact decide_eq_true (by omega), svB_same (sv_unt f hA) k⟩⟩
theorem prt_same {s l : List Int} {f : Fm} (hv : validF f 6 = true) (k : Nat) : ∃ L : List Fm, prtS f = (L, 0) ∧ 0 < L.length ∧ L.length ≤ 60 ∧ (∀ g ∈ L, Shrt g ∧ okA g ∧ validF g 6 = true) ∧ (L.all (fun g => svB s l g k)) = svB s l f k := by
  have hA := (valid_both hv).2
  have hn : nN f ≤ 60 := ((validF_iff f 6).1 hv).2.2.1
  unfold prtS
  rw [if_pos hv]
  by_cases h : sumN (prtF f) > 60
  · rw [if_pos h]
    refine ⟨[f], rfl, Nat.one_pos, by simp, fun g hg => ?_, by simp⟩
    rw [List.mem_singleton] at hg; subst hg
    exact ⟨shrt_okA hA, hA, hv⟩
  · rw [if_neg h]
    have h1 := par_len f hA
    refine ⟨prtF f, rfl, h1.1, by omega, fun g hg => ?_, ?_⟩
    · have := par_ok f hA g hg
      exact ⟨shrt_okA this.1, this.1, by rw [valid_nN this.1]; exact decide_eq_true (by omega)⟩
    · rw [Bool.eq_iff_iff, List.all_eq_true, svB_iff, ← sv_prt f hA k]
      exact ⟨fun h x hx => (svB_iff _ _ _ _).1 (h x hx), fun h x hx => (svB_iff _ _ _ _).2 (h x hx)⟩
section
variable {gl : GL}
theorem rewritesame_ok (hsg : gl.at' 3 = signsA) (har : gl.at' 0 = arityA) (hst : gl.at' 1 = strengthA) (hri : gl.at' 2 = rightA) (f : Fm) (s l : List Int) (k : Int) (hs : Shrt f) (hw : WB s l) (hk : k < 9223372036854775808) :
    PCall (C gl) 4 [encF f, encW s l, .int .i64 k] (.bool true) := by
  have haw : Ctr (C gl) 6 [] True (.bool true) := ⟨fun _ => awake4_ok hsg har hst hri⟩
  have hfew : Ctr (C gl) 11 [encF f, encW s l] True (.bool (decide (nodesR 100 f ≤ 100) && decide (s.length + l.length ≤ 60))) := ⟨fun _ => few4_ok f s l hs hw⟩
  have hhl : Ctr (C gl) 12 [encF f, encW s l, .int .i64 k] True (.tup [.bool (hldS f s l k).1, .int .i64 (hldS f s l k).2]) := ⟨fun _ => holds3_ok f s l k hk hs hw⟩
  have his : ∀ g : Fm, Ctr (C gl) 8 [encF g] (Shrt g) (.bool (validF g 6)) := fun g => ⟨fun h => isR_ok g h⟩
  have hpu : Ctr (C gl) 7 [encF f] True (.tup [encF (pshS f).1, .int .i64 (pshS f).2]) := ⟨fun _ => wPush_ok har f hs⟩
  have hsi : Ctr (C gl) 13 [encF f] True (.tup [encF (simS f).1, .int .i64 (simS f).2]) := ⟨fun _ => wSimple_ok har f hs⟩
  have hun : Ctr (C gl) 14 [encF f] True (.tup [encF (untS f).1, .int .i64 (untS f).2]) := ⟨fun _ => wUntil_ok har f hs⟩
  have hpa : Ctr (C gl) 16 [encF f] True (.tup [.list false (encFs (prtS f).1), .int .i64 (prtS f).2]) := ⟨fun _ => wParts_ok har f hs⟩
  refine pcallX (callX_of b4 (by simp [Tryd.ntmps4]) ?_) (by simp only [AllCl, cl_encF, cl_encW, cl_int, and_true]) (.bool _)
  have hkk : ¬ k < 0 → k = (k.toNat : Int) := fun h => by omega
  have h3 : validW s l = true → ¬ k < 0 → ∀ g : Fm, Ctr (C gl) 15 [encF g, encW s l, .int .i64 k] (validF g 6 = true) (.bool (svB s l g k.toNat)) := fun hx hk0 g => ⟨fun hg => by
    have := is_ok' (gl := gl) s l (validW_ok hx) g (valid_both hg).2 k.toNat (by omega)
    rw [← hkk hk0] at this
    exact this⟩
  clear hkk hk
  simp only [encW_eq] at hfew hhl h3
  refine W.of ?_
  rw [Tryd.ntmps4]
  simp only [toK, codeOf, Tryd.f4, go_sem, seval, reduceCtorEq]
  cases k1 : (decide (nodesR 100 f ≤ 100) && decide (s.length + l.length ≤ 60)) with
  | false =>
    have H := And.intro @encW_eq @k1
    refine autoA ?_
    try exact trivial
    try exact cut_none _
  | true =>
  have herr : ∀ b e, hldS f s l k = (b, e) → (e == 0) = false → (hldS f s l k).2 = e := fun b e h _ => by rw [h]
  by_cases hv : validF f 6 = true
  · by_cases hx : validW s l = true
    · by_cases hk0 : k < 0
      · have e : hldS f s l k = (false, 6) := by unfold hldS; rw [if_pos ⟨hv, hx⟩, if_pos hk0]
        rw [e] at hhl
        have H := And.intro @encW_eq @k1
        refine autoA ?_
        try exact trivial
        try exact cut_none _
      · have e : hldS f s l k = (svB s l f k.toNat, 0) := by unfold hldS; rw [if_pos ⟨hv, hx⟩, if_neg hk0]
        rw [e] at hhl
        have c3 := h3 hx hk0
        have r1 := rw_sim (s := s) (l := l) hv k.toNat
        have r2 := rw_push (s := s) (l := l) hv k.toNat
        have r3 := rw_unt (s := s) (l := l) hv k.toNat
        obtain ⟨L, eL, hL1, hL2, hL3, hL4⟩ := prt_same (s := s) (l := l) hv k.toNat
        rw [eL] at hpa
        clear h3 herr e
        obtain ⟨b, hbD⟩ : ∃ b, svB s l f k.toNat = b := ⟨_, rfl⟩
        rw [hbD] at hhl hL4
        have hB : (svB s l f k.toNat == b) = true := by rw [hbD]; cases b <;> rfl
        have H := And.intro @encW_eq @k1
        refine autoA ?_
        try exact trivial
        have hbb : (b != b) = false := by cases b <;> rfl
        have hbe : (b == b) = true := by cases b <;> rfl
        refine rangeA (3) [2, 3, 4, 7, 33] [] (fun i => []) (fun i => ((Sto.none.add (.box [.int .i64 f.op, .int .i64 f.var, .list false (encFs f.args)])).add (.box [.list false (s.map intE), .list false (l.map intE)]))) ?_ ?_
        · intro i hi
          match i, hi with
          | 0, _ =>
            cases he : ((simS f).2 == 0) with
            | false =>
              have H := @he
              refine autoA ?_
              try exact trivial
              try exact cutA
            | true =>
              obtain ⟨v1, v2⟩ := r1.ok (eq_of_beq he)
              have v3 := r1.shrt
              have H := And.intro @he (And.intro @v1 (And.intro @v2 (And.intro @v3 @hB)))
              refine autoA ?_
              try exact trivial
              try exact cutA
          | 1, _ =>
            cases he : ((pshS f).2 == 0) with
            | false =>
              have H := @he
              refine autoA ?_
              try exact trivial
              try exact cutA
            | true =>
              obtain ⟨v1, v2⟩ := r2.ok (eq_of_beq he)
              have v3 := r2.shrt
              have H := And.intro @he (And.intro @v1 (And.intro @v2 (And.intro @v3 @hB)))
              refine autoA ?_
              try exact trivial
              try exact cutA
          | 2, _ =>
            cases he : ((untS f).2 == 0) with
            | false =>
              have H := @he
              refine autoA ?_
              try exact trivial
              try exact cutA
            | true =>
              obtain ⟨v1, v2⟩ := r3.ok (eq_of_beq he)
              have v3 := r3.shrt
              have H := And.intro @he (And.intro @v1 (And.intro @v2 (And.intro @v3 @hB)))
              refine autoA ?_
              try exact trivial
              try exact cutA
        · have hL0 : ((L.length : Int) == 0) = false := beq_eq_false_iff_ne.2 (by omega)
          have hL00 : 0 < L.length := hL1
          clear hL1
          obtain ⟨A, hA⟩ : ∃ A : Nat → Bool, ∀ i, A i = (L.take i).all (fun g => svB s l g k.toNat) := ⟨_, fun _ => rfl⟩
          have hA0 : A 0 = true := by rw [hA]; rfl
          have hAL : A L.length = b := by rw [hA, List.take_length]; exact hL4
          have hAs : ∀ i, (hi : i < L.length) → A (i + 1) = (A i && svB s l L[i] k.toNat) := fun i hi => by
            rw [hA, hA, ← List.take_append_getElem hi, List.all_append]; simp
          have H := And.intro @hA0 @hL0
          refine autoA ?_
          try exact trivial
          refine WK.rangeX (L.length) [2, 3, 4, 7, 71] [15] (fun i => [.bool (A i)]) (fun i => ((Sto.none.add (.box [.int .i64 f.op, .int .i64 f.var, .list false (encFs f.args)])).add (.box [.list false (s.map intE), .list false (l.map intE)]))) (by omega) (by decide) (by simp only [go_sem, seval, reduceCtorEq, hA0]) (by simp only [go_sem, seval, reduceCtorEq, hA0]) (by simp only [go_sem, seval, reduceCtorEq, hA0, List.take_zero]) (by first | rfl | (simp only [go_sem, seval, reduceCtorEq, hA0]; done) | (refine Sto.ext' (by simp only [go_sem, seval, reduceCtorEq, hA0]) (fun i => ?_); simp only [go_sem, seval, reduceCtorEq, hA0]; repeat' split; all_goals (first | rfl | omega | simp_all))) ?_ ?_
          · intro i hi
            have e := encFs_get L i hi
            obtain ⟨p1, p2, p3⟩ := hL3 _ (List.getElem_mem hi)
            have hs1 := hAs i hi
            cases q : A i with
            | false =>
              rw [q, Bool.false_and] at hs1
              have H := And.intro @hA0 (And.intro @hi (And.intro @q (And.intro @p1 (And.intro @p3 @hs1))))
              refine autoA ?_
              try exact trivial
              try exact cutA
            | true =>
              rw [q, Bool.true_and] at hs1
              have H := And.intro @hA0 (And.intro @hi (And.intro @q (And.intro @p1 (And.intro @p3 @hs1))))
              refine autoA ?_
              try exact trivial
              try exact cutA
          · rw [hAL]
            have H := And.intro @hA0 @hbe
            refine autoA ?_
            try exact trivial
            try exact cut_none _
    · have e : hldS f s l k = (false, 1) := by unfold hldS; rw [if_neg (fun h => hx h.2)]
      rw [e] at hhl
      have H := And.intro @encW_eq @k1
      refine autoA ?_
      try exact trivial
      try exact cut_none _
  · have e : hldS f s l k = (false, 1) := by unfold hldS; rw [if_neg (fun h => hv h.1)]
    rw [e] at hhl
    have H := And.intro @encW_eq @k1
    refine autoA ?_
    try exact trivial
    try exact cut_none _
end
end Go.Sx
