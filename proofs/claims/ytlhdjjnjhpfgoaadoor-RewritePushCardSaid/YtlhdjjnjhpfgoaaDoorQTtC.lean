/- Proved: for every input that RewritePush takes, the law returns true and what came in reads behind the call as it read before. Conditions: those of the row: the tables of ltl are laid as the text of the program lays them (the card ties it), and what came in fits the reach. -/
import Derived.Test.YtlhdjjnjhpfgoaaDoorQBdW
import Derived.Test.YtlhdjjnjhpfgoaaDoorQTtB
import Derived.Test.YtlhdjjnjhpfgoaaDoorCards
import Derived.Test.YtlhdjjnjhpfgoaaDoorTie
import Derived.SevenTiedAt
set_option maxRecDepth 100000
set_option linter.unusedSimpArgs false
set_option linter.unusedVariables false
set_option linter.unnecessarySimpa false
namespace Go.Sx
open Go Go.Lg Go.Proofs Go.ChangeShapes Go.WideShapes Go.RowKit
open Go.Proofs.YtlhdjjnjhpfgoaaDoor
theorem rewritePush_calls {W : World} (h : laidMetH Tryd.prog Rows.rewritePushRow.laid W) {c0 : Fm} (s0 : Shrt c0) {v0 : Value} (r0 : Rep (G0 W) (encF c0) v0) :
    Calls Tryd.prog 3 #[v0] W fun e W' => e = .returned (.bool true) ∧ Below W.heap.size W W' := by
  obtain ⟨σ', hc⟩ := (rewritepush_ok (gl := glB) rfl rfl rfl rfl c0 s0).call
  have := hc W (G0 W) W #[v0] (invB (laid4_of h (.tail _ (.head _)) (.tail _ (.tail _ (.head _))) (.tail _ (.tail _ (.tail _ (.head _)))) (.tail _ (.tail _ (.tail _ (.tail _ (.head _))))))) rfl (fun i x u hx hu => by
    match i with
    | 0 => cases hx; cases hu; exact r0
    | i + 1 => cases hx)
  refine (this.calls fun k => ?_).mono fun e W' ⟨G', u, he, hru, hi, _⟩ => ?_
  · exact fun d hd => by cases hd
  · cases hru
    exact ⟨he, hi.below⟩
theorem rewritePush_lifted (os : Os) (started : os.Started) (H : Type) (enc : TypeId × Value → H) :
    ReturnsInHanded {} Tryd.checked os 3 .any (fun w args => (Rows.rewritePushSpec.pre enc Tryd.prog Tryd.f3 [] false w args ∧ laidMetH Tryd.prog Rows.rewritePushRow.laid w) ∧ sizedMet enc Tryd.prog Tryd.f3 (OpenSpec.ofChange Rows.rewritePushSpec) false w args)
      (Rows.rewritePushSpec.post enc Tryd.prog Tryd.f3 false true false false) := by
  refine returnsInHanded_of_change_and (C := Tryd.checked) (X := fun w _ => laidMetH Tryd.prog Rows.rewritePushRow.laid w) (fun _ _ _ hh h => h.of_heap hh) own0 started (by kernel_rfl) Tryd.func3
    (ChangeSpec.witness_at (enc := enc) (C := Tryd.checked) (os := os) (X := fun w _ => laidMetH Tryd.prog Rows.rewritePushRow.laid w) false (laidWorldB os) #[.agg zeroF.toArray] 8 rfl (by kernel_rfl) (by kernel_rfl) (by kernel_rfl) (by kernel_rfl) (by kernel_rfl) (laidWorldB_met os _)) ?_
  intro W base args ds gs before hval0 hW _ hsz0 hL _
  have hsz : (DataW.weightsEach Tryd.prog (Tryd.f3.params.toList ++ Rows.rewritePushSpec.plain.varTypes Tryd.prog) (ds ++ gs)).all (· ≤ reachBytes) = true := hsz0
  have hW' := hW
  obtain ⟨p, q, hA0, hV0, rfl, hfz, hnd⟩ := hW
  have hA : DataW.TrodAll enc Tryd.prog W 0 (fun _ => true) true Tryd.f3.params.toList args.toList ds p := hA0
  have hV : DataW.TrodVars enc Tryd.prog W (fun _ => true) [] gs q := hV0
  rw [Tryd.params3] at hA hsz
  obtain ⟨v0, d0, hargs, rfl, h0⟩ := trodAll_one hA
  obtain rfl : args = #[v0] := by cases args; simp_all
  obtain ⟨rfl, rfl⟩ : gs = [] ∧ q = [] := by
    cases gs with
    | nil => exact ⟨rfl, hV⟩
    | cons g r => exact absurd hV (by intro h; cases h)
  have w0 : Wt 24 d0 := fun n hn => by
    have := List.all_eq_true.1 hsz n (by
      show n ∈ DataW.weightsEach Tryd.prog (24 :: _) (d0 :: _)
      simp only [DataW.weightsEach, List.mem_append]
      exact .inl hn)
    exact of_decide_eq_true this
  obtain ⟨c0, s0, r0⟩ := trod_argF h0 w0
  have lt0 := trod_lt0 h0
  refine (rewritePush_calls hL s0 r0).mono fun e W' ⟨he, bel⟩ => ?_
  subst he
  exact ⟨_, rfl, _, _, _, [], _, [], hW', trodAll_mk1 (shut_bool Tryd.underlying4 _), trodAll_mk1 (Below.trod laidOut (by kernel_rfl) (of_decide_eq_true (by kernel_rfl)) h0 bel lt0), rfl, bel.frame _, fun h => by cases h⟩
theorem rewritePush_row : Rows.RewritePushSaid :=
  OpenClaim.holds_of_wide 3 Tryd.f3 rfl rfl rfl rfl rfl rfl rfl ⟨rfl, rfl, rfl, rfl, rfl⟩ rfl rfl rfl rfl rfl (by kernel_rfl) Tryd.func3 (by kernel_rfl)
    (of_decide_eq_true (by kernel_rfl)) (by unfold Func.isWrapper; rw [if_neg (of_decide_eq_false (by kernel_rfl))]; exact ⟨rfl, rfl⟩)
    (fun os started H enc _ => rewritePush_lifted os started H enc)
theorem rewritePush_card : Rows.RewritePushCardSaid :=
  Claim7.holds_tied_plain_at .later [] [.data, .data, .data, .data, .data, .pinned] true (true, "96453a6c2dfbf07e901721778167fb6b9a8bfd087edbb5ff70918f247d0dcb33") true
    rewritePush_row (fun _ h => by cases h) (by kernel_rfl) (fun _ h => by cases h) rewritePush_row_tie rfl ⟨rfl, rfl⟩ (by kernel_rfl) rfl
    (fun f fn hf hfn => by
      obtain rfl : f = 3 := (Option.some.inj ((show Tryd.prog.funcNamed "lodesman/lodesmanlaw04.RewritePush" = some 3 by kernel_rfl).symm.trans hf)).symm
      obtain rfl : fn = Tryd.f3 := (Option.some.inj (Tryd.func3.symm.trans hfn)).symm
      exact ⟨by kernel_rfl, fun j t ht => by
        rw [Tryd.params3] at ht
        match j with
          | 0 => simp at ht; subst ht; exact (show Tryd.prog.wantsStandIn 24 = false by kernel_rfl)
          | j + 1 => simp at ht⟩)
    (by kernel_rfl)
end Go.Sx
namespace Go.Proofs.YtlhdjjnjhpfgoaaDoor
theorem rewritePush_holds : Rows.RewritePushCardSaid := Go.Sx.rewritePush_card
#print axioms rewritePush_holds
end Go.Proofs.YtlhdjjnjhpfgoaaDoor
