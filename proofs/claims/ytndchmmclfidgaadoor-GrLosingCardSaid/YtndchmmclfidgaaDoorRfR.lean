/- Proved: for every contract, machine, state and letter that GrLosing takes, the law returns true and what came in reads behind the call as it read before. Conditions: those of the row: the table of arities is laid as the text of the program lays it (the card ties it), and what came in fits the reach. -/
import Derived.Test.YtndchmmclfidgaaDoorBdA
import Derived.Test.YtndchmmclfidgaaDoorBdM
import Derived.Test.YtndchmmclfidgaaDoorRfQ
import Derived.Test.YtndchmmclfidgaaDoorCards
import Derived.Test.YtndchmmclfidgaaDoorTie
import Derived.SevenTiedAt
set_option maxRecDepth 100000
set_option linter.unusedSimpArgs false
set_option linter.unusedVariables false
set_option linter.unnecessarySimpa false
namespace Go.Sx
open Go Go.Lg Go.Proofs Go.ChangeShapes Go.WideShapes Go.RowKit
open Go.Proofs.YtndchmmclfidgaaDoor
/-! ## GrLosing -/
theorem grlosing_true {gl : GL} (har : gl.at' 0 = arityA) (c : Ct) (m : Mc) (s l : Int) (hs : ShrtC c) (hm : McB m) : PCall (C gl) 4 [encC c, encM m, .int .i64 s, .int .i64 l] (.bool true) :=
  grlosing_ok har c m s l hs
theorem grLosing_calls {W : World} (h : laidMetH Tryd.prog Rows.grLosingRow.laid W) {c0 : Ct} (s0 : ShrtC c0) {c1 : Mc} (s1 : McB c1) {c2 : Int} {c3 : Int} {v0 v1 v2 v3 : Value} (r0 : Rep (G0 W) (encC c0) v0) (r1 : Rep (G0 W) (encM c1) v1) (r2 : Rep (G0 W) (.int .i64 c2) v2) (r3 : Rep (G0 W) (.int .i64 c3) v3) :
    Calls Tryd.prog 4 #[v0, v1, v2, v3] W fun e W' => e = .returned (.bool true) ∧ Below W.heap.size W W' := by
  obtain ⟨σ', hc⟩ := (grlosing_true (gl := glA) glA_at c0 c1 c2 c3 s0 s1).call
  have := hc W (G0 W) W #[v0, v1, v2, v3] (inv0 h) rfl (fun i x u hx hu => by
    match i with
    | 0 => cases hx; cases hu; exact r0
    | 1 => cases hx; cases hu; exact r1
    | 2 => cases hx; cases hu; exact r2
    | 3 => cases hx; cases hu; exact r3
    | i + 4 => cases hx)
  refine (this.calls fun k => ?_).mono fun e W' ⟨G', u, he, hru, hi, _⟩ => ?_
  · exact fun d hd => by cases hd
  · cases hru
    exact ⟨he, hi.below⟩
theorem grLosing_lifted (os : Os) (started : os.Started) (H : Type) (enc : TypeId × Value → H) :
    ReturnsInHanded {} Tryd.checked os 4 .any (fun w args => (Rows.grLosingSpec.pre enc Tryd.prog Tryd.f4 [] false w args ∧ laidMetH Tryd.prog Rows.grLosingRow.laid w) ∧ sizedMet enc Tryd.prog Tryd.f4 (OpenSpec.ofChange Rows.grLosingSpec) false w args)
      (Rows.grLosingSpec.post enc Tryd.prog Tryd.f4 false true false false) := by
  refine returnsInHanded_of_change_and (C := Tryd.checked) (X := fun w _ => laidMetH Tryd.prog Rows.grLosingRow.laid w) (fun _ _ _ hh h => h.of_heap hh) own0 started (by kernel_rfl) Tryd.func4
    (ChangeSpec.witness_at (enc := enc) (C := Tryd.checked) (os := os) (X := fun w _ => laidMetH Tryd.prog Rows.grLosingRow.laid w) false (laidWorld os) #[zeroC, .agg #[.int .i64 0, .int .i64 0, .slice none 0 0, .slice none 0 0], .int .i64 0, .int .i64 0] 8 rfl (by kernel_rfl) (by kernel_rfl) (by kernel_rfl) (by kernel_rfl) (by kernel_rfl) (laidWorld_met os _)) ?_
  intro W base args ds gs before hval0 hW _ hsz0 hL _
  have hsz : (DataW.weightsEach Tryd.prog (Tryd.f4.params.toList ++ Rows.grLosingSpec.plain.varTypes Tryd.prog) (ds ++ gs)).all (· ≤ reachBytes) = true := hsz0
  have hW' := hW
  obtain ⟨p, q, hA0, hV0, rfl, hfz, hnd⟩ := hW
  have hA : DataW.TrodAll enc Tryd.prog W 0 (fun _ => true) true Tryd.f4.params.toList args.toList ds p := hA0
  have hV : DataW.TrodVars enc Tryd.prog W (fun _ => true) [] gs q := hV0
  rw [Tryd.params4] at hA hsz
  obtain ⟨v0, v1, v2, v3, d0, d1, d2, d3, q0, q1, q2, q3, hargs, rfl, rfl, h0, h1, h2, h3⟩ := trodAll_four hA
  obtain rfl : args = #[v0, v1, v2, v3] := by cases args; simp_all
  obtain ⟨rfl, rfl⟩ : gs = [] ∧ q = [] := by
    cases gs with
    | nil => exact ⟨rfl, hV⟩
    | cons g r => exact absurd hV (by intro h; cases h)
  have w0 : Wt 26 d0 := fun n hn => by
    have := List.all_eq_true.1 hsz n (by
      show n ∈ DataW.weightsEach Tryd.prog (26 :: 42 :: 3 :: 3 :: _) (d0 :: d1 :: d2 :: d3 :: _)
      simp only [DataW.weightsEach, List.mem_append]
      exact .inl hn)
    exact of_decide_eq_true this
  have w1 : Wt 42 d1 := fun n hn => by
    have := List.all_eq_true.1 hsz n (by
      show n ∈ DataW.weightsEach Tryd.prog (26 :: 42 :: 3 :: 3 :: _) (d0 :: d1 :: d2 :: d3 :: _)
      simp only [DataW.weightsEach, List.mem_append]
      exact .inr (.inl hn))
    exact of_decide_eq_true this
  have w2 : Wt 3 d2 := fun n hn => by
    have := List.all_eq_true.1 hsz n (by
      show n ∈ DataW.weightsEach Tryd.prog (26 :: 42 :: 3 :: 3 :: _) (d0 :: d1 :: d2 :: d3 :: _)
      simp only [DataW.weightsEach, List.mem_append]
      exact .inr (.inr (.inl hn)))
    exact of_decide_eq_true this
  have w3 : Wt 3 d3 := fun n hn => by
    have := List.all_eq_true.1 hsz n (by
      show n ∈ DataW.weightsEach Tryd.prog (26 :: 42 :: 3 :: 3 :: _) (d0 :: d1 :: d2 :: d3 :: _)
      simp only [DataW.weightsEach, List.mem_append]
      exact .inr (.inr (.inr (.inl hn))))
    exact of_decide_eq_true this
  obtain ⟨c0, s0, r0⟩ := trod_argC h0 w0
  obtain ⟨c1, s1, r1⟩ := trod_argM h1 w1
  obtain ⟨c2, e2⟩ := okWide_int (k := .i64) Tryd.underlying3 (hval0 2 3 v2 (by kernel_rfl) rfl)
  have r2 : Rep (G0 W) (.int .i64 c2) v2 := by rw [e2]; exact .int _ _
  obtain ⟨c3, e3⟩ := okWide_int (k := .i64) Tryd.underlying3 (hval0 3 3 v3 (by kernel_rfl) rfl)
  have r3 : Rep (G0 W) (.int .i64 c3) v3 := by rw [e3]; exact .int _ _
  have lt0 := trod_lt0 h0
  have lt1 := trod_lt0 h1
  have lt2 := trod_lt0 h2
  have lt3 := trod_lt0 h3
  refine (grLosing_calls hL s0 s1 r0 r1 r2 r3).mono fun e W' ⟨he, bel⟩ => ?_
  subst he
  exact ⟨_, rfl, _, _, _, [], _, [], hW', trodAll_mk1 (shut_bool Tryd.underlying4 _), trodAll_mk4 (Below.trod laidOut (by kernel_rfl) (of_decide_eq_true (by kernel_rfl)) h0 bel lt0) (Below.trod laidOut (by kernel_rfl) (of_decide_eq_true (by kernel_rfl)) h1 bel lt1) (Below.trod laidOut (by kernel_rfl) (of_decide_eq_true (by kernel_rfl)) h2 bel lt2) (Below.trod laidOut (by kernel_rfl) (of_decide_eq_true (by kernel_rfl)) h3 bel lt3), rfl, bel.frame _, fun h => by cases h⟩
theorem grLosing_row : Rows.GrLosingSaid :=
  OpenClaim.holds_of_wide 4 Tryd.f4 rfl rfl rfl rfl rfl rfl rfl ⟨rfl, rfl, rfl, rfl, rfl⟩ rfl rfl rfl rfl rfl (by kernel_rfl) Tryd.func4 (by kernel_rfl)
    (of_decide_eq_true (by kernel_rfl)) (by unfold Func.isWrapper; rw [if_neg (of_decide_eq_false (by kernel_rfl))]; exact ⟨rfl, rfl⟩)
    (fun os started H enc _ => grLosing_lifted os started H enc)
theorem grLosing_card : Rows.GrLosingCardSaid :=
  Claim7.holds_tied_plain_at .later [] [.data] true (true, "8157b7f6b5233d5117948f1d01160ad5be98bfe6ad9238096ab8a67f4c2e4d10") true
    grLosing_row (fun _ h => by cases h) (by kernel_rfl) (fun _ h => by cases h) grLosing_row_tie rfl ⟨rfl, rfl⟩ (by kernel_rfl) rfl
    (fun f fn hf hfn => by
      obtain rfl : f = 4 := (Option.some.inj ((show Tryd.prog.funcNamed "lodesman/lodesmanlaw23.GrLosing" = some 4 by kernel_rfl).symm.trans hf)).symm
      obtain rfl : fn = Tryd.f4 := (Option.some.inj (Tryd.func4.symm.trans hfn)).symm
      exact ⟨by kernel_rfl, fun j t ht => by
        rw [Tryd.params4] at ht
        match j with
          | 0 => simp at ht; subst ht; exact (show Tryd.prog.wantsStandIn 26 = false by kernel_rfl)
          | 1 => simp at ht; subst ht; exact (show Tryd.prog.wantsStandIn 42 = false by kernel_rfl)
          | 2 => simp at ht; subst ht; exact (show Tryd.prog.wantsStandIn 3 = false by kernel_rfl)
          | 3 => simp at ht; subst ht; exact (show Tryd.prog.wantsStandIn 3 = false by kernel_rfl)
          | j + 4 => simp at ht⟩)
    (by kernel_rfl)
end Go.Sx
namespace Go.Proofs.YtndchmmclfidgaaDoor
theorem grLosing_holds : Rows.GrLosingCardSaid := Go.Sx.grLosing_card
#print axioms grLosing_holds
end Go.Proofs.YtndchmmclfidgaaDoor
