/- Proved: for every input that RewriteSame takes, the law returns true and what came in reads behind the call as it read before. Conditions: those of the row: the tables of ltl are laid as the text of the program lays them (the card ties it), and what came in fits the reach. -/
import Derived.Test.YtlhdjjnjhpfgoaaDoorQBdW
import Derived.Test.YtlhdjjnjhpfgoaaDoorQTtE
import Derived.Test.YtlhdjjnjhpfgoaaDoorCards
import Derived.Test.YtlhdjjnjhpfgoaaDoorTie
import Derived.SevenTiedAt
set_option maxRecDepth 100000
set_option linter.unusedSimpArgs false
set_option linter.unusedVariables false
set_option linter.unnecessarySimpa false
namespace Go.Sx
open Go Go.Lg Go.Proofs Go.ChangeShapes Go.WideShapes Go.RowKit
open Go.Proofs.YtlhdjjnjhpfgoaaDoor
theorem rewritesame_okW {gl : GL} (hsg : gl.at' 3 = signsA) (har : gl.at' 0 = arityA) (hst : gl.at' 1 = strengthA) (hri : gl.at' 2 = rightA) (f : Fm) (w : List Int × List Int) (k : Int) (hs : Shrt f) (hw : WB2 w) (hk : I63 k) :
    PCall (C gl) 4 [encF f, encW2 w, .int .i64 k] (.bool true) := rewritesame_ok hsg har hst hri f w.1 w.2 k hs hw hk
theorem rewriteSame_calls {W : World} (h : laidMetH Tryd.prog Rows.rewriteSameRow.laid W) {c0 : Fm} (s0 : Shrt c0) {c1 : List Int × List Int} (s1 : WB2 c1) {c2 : Int} (s2 : I63 c2) {v0 v1 v2 : Value} (r0 : Rep (G0 W) (encF c0) v0) (r1 : Rep (G0 W) (encW2 c1) v1) (r2 : Rep (G0 W) (.int .i64 c2) v2) :
    Calls Tryd.prog 4 #[v0, v1, v2] W fun e W' => e = .returned (.bool true) ∧ Below W.heap.size W W' := by
  obtain ⟨σ', hc⟩ := (rewritesame_okW (gl := glB) rfl rfl rfl rfl c0 c1 c2 s0 s1 s2).call
  have := hc W (G0 W) W #[v0, v1, v2] (invB (laid4_of h (.tail _ (.head _)) (.tail _ (.tail _ (.head _))) (.tail _ (.tail _ (.tail _ (.head _)))) (.tail _ (.tail _ (.tail _ (.tail _ (.head _))))))) rfl (fun i x u hx hu => by
    match i with
    | 0 => cases hx; cases hu; exact r0
    | 1 => cases hx; cases hu; exact r1
    | 2 => cases hx; cases hu; exact r2
    | i + 3 => cases hx)
  refine (this.calls fun k => ?_).mono fun e W' ⟨G', u, he, hru, hi, _⟩ => ?_
  · exact fun d hd => by cases hd
  · cases hru
    exact ⟨he, hi.below⟩
theorem rewriteSame_lifted (os : Os) (started : os.Started) (H : Type) (enc : TypeId × Value → H) :
    ReturnsInHanded {} Tryd.checked os 4 .any (fun w args => (Rows.rewriteSameSpec.pre enc Tryd.prog Tryd.f4 [] false w args ∧ laidMetH Tryd.prog Rows.rewriteSameRow.laid w) ∧ sizedMet enc Tryd.prog Tryd.f4 (OpenSpec.ofChange Rows.rewriteSameSpec) false w args)
      (Rows.rewriteSameSpec.post enc Tryd.prog Tryd.f4 false true false false) := by
  refine returnsInHanded_of_change_and (C := Tryd.checked) (X := fun w _ => laidMetH Tryd.prog Rows.rewriteSameRow.laid w) (fun _ _ _ hh h => h.of_heap hh) own0 started (by kernel_rfl) Tryd.func4
    (ChangeSpec.witness_at (enc := enc) (C := Tryd.checked) (os := os) (X := fun w _ => laidMetH Tryd.prog Rows.rewriteSameRow.laid w) false (laidWorldB os) #[.agg zeroF.toArray, .agg #[.slice none 0 0, .slice none 0 0], .int .i64 0] 8 rfl (by kernel_rfl) (by kernel_rfl) (by kernel_rfl) (by kernel_rfl) (by kernel_rfl) (laidWorldB_met os _)) ?_
  intro W base args ds gs before hval0 hW _ hsz0 hL _
  have hsz : (DataW.weightsEach Tryd.prog (Tryd.f4.params.toList ++ Rows.rewriteSameSpec.plain.varTypes Tryd.prog) (ds ++ gs)).all (· ≤ reachBytes) = true := hsz0
  have hW' := hW
  obtain ⟨p, q, hA0, hV0, rfl, hfz, hnd⟩ := hW
  have hA : DataW.TrodAll enc Tryd.prog W 0 (fun _ => true) true Tryd.f4.params.toList args.toList ds p := hA0
  have hV : DataW.TrodVars enc Tryd.prog W (fun _ => true) [] gs q := hV0
  rw [Tryd.params4] at hA hsz
  obtain ⟨v0, v1, v2, d0, d1, d2, q0, q1, q2, hargs, rfl, rfl, h0, h1, h2⟩ := trodAll_three hA
  obtain rfl : args = #[v0, v1, v2] := by cases args; simp_all
  obtain ⟨rfl, rfl⟩ : gs = [] ∧ q = [] := by
    cases gs with
    | nil => exact ⟨rfl, hV⟩
    | cons g r => exact absurd hV (by intro h; cases h)
  have w0 : Wt 24 d0 := fun n hn => by
    have := List.all_eq_true.1 hsz n (by
      show n ∈ DataW.weightsEach Tryd.prog (24 :: 34 :: 3 :: _) (d0 :: d1 :: d2 :: _)
      simp only [DataW.weightsEach, List.mem_append]
      exact .inl hn)
    exact of_decide_eq_true this
  have w1 : Wt 34 d1 := fun n hn => by
    have := List.all_eq_true.1 hsz n (by
      show n ∈ DataW.weightsEach Tryd.prog (24 :: 34 :: 3 :: _) (d0 :: d1 :: d2 :: _)
      simp only [DataW.weightsEach, List.mem_append]
      exact .inr (.inl hn))
    exact of_decide_eq_true this
  have w2 : Wt 3 d2 := fun n hn => by
    have := List.all_eq_true.1 hsz n (by
      show n ∈ DataW.weightsEach Tryd.prog (24 :: 34 :: 3 :: _) (d0 :: d1 :: d2 :: _)
      simp only [DataW.weightsEach, List.mem_append]
      exact .inr (.inr (.inl hn)))
    exact of_decide_eq_true this
  obtain ⟨c0, s0, r0⟩ := trod_argF h0 w0
  obtain ⟨c1, s1, r1⟩ := trod_argW h1 w1
  obtain ⟨c2, e2, s2⟩ := okWide_int63 Tryd.underlying3 (hval0 2 3 v2 (by kernel_rfl) rfl)
  have r2 : Rep (G0 W) (.int .i64 c2) v2 := by rw [e2]; exact .int _ _
  have lt0 := trod_lt0 h0
  have lt1 := trod_lt0 h1
  have lt2 := trod_lt0 h2
  refine (rewriteSame_calls hL s0 s1 s2 r0 r1 r2).mono fun e W' ⟨he, bel⟩ => ?_
  subst he
  exact ⟨_, rfl, _, _, _, [], _, [], hW', trodAll_mk1 (shut_bool Tryd.underlying4 _), trodAll_mk3 (Below.trod laidOut (by kernel_rfl) (of_decide_eq_true (by kernel_rfl)) h0 bel lt0) (Below.trod laidOut (by kernel_rfl) (of_decide_eq_true (by kernel_rfl)) h1 bel lt1) (Below.trod laidOut (by kernel_rfl) (of_decide_eq_true (by kernel_rfl)) h2 bel lt2), rfl, bel.frame _, fun h => by cases h⟩
theorem rewriteSame_row : Rows.RewriteSameSaid :=
  OpenClaim.holds_of_wide 4 Tryd.f4 rfl rfl rfl rfl rfl rfl rfl ⟨rfl, rfl, rfl, rfl, rfl⟩ rfl rfl rfl rfl rfl (by kernel_rfl) Tryd.func4 (by kernel_rfl)
    (of_decide_eq_true (by kernel_rfl)) (by unfold Func.isWrapper; rw [if_neg (of_decide_eq_false (by kernel_rfl))]; exact ⟨rfl, rfl⟩)
    (fun os started H enc _ => rewriteSame_lifted os started H enc)
theorem rewriteSame_card : Rows.RewriteSameCardSaid :=
  Claim7.holds_tied_plain_at .later [] [.data, .data, .data, .data, .data, .pinned] true (true, "96453a6c2dfbf07e901721778167fb6b9a8bfd087edbb5ff70918f247d0dcb33") true
    rewriteSame_row (fun _ h => by cases h) (by kernel_rfl) (fun _ h => by cases h) rewriteSame_row_tie rfl ⟨rfl, rfl⟩ (by kernel_rfl) rfl
    (fun f fn hf hfn => by
      obtain rfl : f = 4 := (Option.some.inj ((show Tryd.prog.funcNamed "lodesman/lodesmanlaw04.RewriteSame" = some 4 by kernel_rfl).symm.trans hf)).symm
      obtain rfl : fn = Tryd.f4 := (Option.some.inj (Tryd.func4.symm.trans hfn)).symm
      exact ⟨by kernel_rfl, fun j t ht => by
        rw [Tryd.params4] at ht
        match j with
          | 0 => simp at ht; subst ht; exact (show Tryd.prog.wantsStandIn 24 = false by kernel_rfl)
          | 1 => simp at ht; subst ht; exact (show Tryd.prog.wantsStandIn 34 = false by kernel_rfl)
          | 2 => simp at ht; subst ht; exact (show Tryd.prog.wantsStandIn 3 = false by kernel_rfl)
          | j + 3 => simp at ht⟩)
    (by kernel_rfl)
end Go.Sx
namespace Go.Proofs.YtlhdjjnjhpfgoaaDoor
theorem rewriteSame_holds : Rows.RewriteSameCardSaid := Go.Sx.rewriteSame_card
#print axioms rewriteSame_holds
end Go.Proofs.YtlhdjjnjhpfgoaaDoor
