/- Proved: for every contract that GrMachine takes, the law returns true and what came in reads behind the call as it read before. Conditions: those of the row: the tables of arities and of bits are laid as the text of the program lays them (the card ties it), and what came in fits the reach. -/
import Derived.Test.YtndchmmclfidgaaDoorBdD
import Derived.Test.YtndchmmclfidgaaDoorRgL
import Derived.Test.YtndchmmclfidgaaDoorCards
import Derived.Test.YtndchmmclfidgaaDoorTie
import Derived.SevenTiedAt
set_option maxRecDepth 100000
set_option linter.unusedSimpArgs false
set_option linter.unusedVariables false
set_option linter.unnecessarySimpa false
namespace Go.Sx
open Go Go.Lg Go.Proofs Go.ChangeShapes Go.WideShapes Go.RowKit
open Go.Proofs.YtndchmmclfidgaaDoor
theorem grMachine_calls {W : World} (h : laidMetH Tryd.prog Rows.grMachineRow.laid W) {c0 : Ct} (s0 : ShrtC c0) {v0 : Value} (r0 : Rep (G0 W) (encC c0) v0) :
    Calls Tryd.prog 7 #[v0] W fun e W' => e = .returned (.bool true) ∧ Below W.heap.size W W' := by
  obtain ⟨σ', hc⟩ := (grmachine_ok (gl := glM) rfl rfl c0 s0).call
  have := hc W (G0 W) W #[v0] (invM (laidM_of h (.tail _ (.head _)) (.head _))) rfl (fun i x u hx hu => by
    match i with
    | 0 => cases hx; cases hu; exact r0
    | i + 1 => cases hx)
  refine (this.calls fun k => ?_).mono fun e W' ⟨G', u, he, hru, hi, _⟩ => ?_
  · exact fun d hd => by cases hd
  · cases hru
    exact ⟨he, hi.below⟩
theorem grMachine_lifted (os : Os) (started : os.Started) (H : Type) (enc : TypeId × Value → H) :
    ReturnsInHanded {} Tryd.checked os 7 .any (fun w args => (Rows.grMachineSpec.pre enc Tryd.prog Tryd.f7 [] false w args ∧ laidMetH Tryd.prog Rows.grMachineRow.laid w) ∧ sizedMet enc Tryd.prog Tryd.f7 (OpenSpec.ofChange Rows.grMachineSpec) false w args)
      (Rows.grMachineSpec.post enc Tryd.prog Tryd.f7 false true false false) := by
  refine returnsInHanded_of_change_and (C := Tryd.checked) (X := fun w _ => laidMetH Tryd.prog Rows.grMachineRow.laid w) (fun _ _ _ hh h => h.of_heap hh) own0 started (by kernel_rfl) Tryd.func7
    (ChangeSpec.witness_at (enc := enc) (C := Tryd.checked) (os := os) (X := fun w _ => laidMetH Tryd.prog Rows.grMachineRow.laid w) false (laidWorldM os) #[zeroC] 8 rfl (by kernel_rfl) (by kernel_rfl) (by kernel_rfl) (by kernel_rfl) (by kernel_rfl) (laidWorldM_met os _)) ?_
  intro W base args ds gs before hval0 hW _ hsz0 hL _
  have hsz : (DataW.weightsEach Tryd.prog (Tryd.f7.params.toList ++ Rows.grMachineSpec.plain.varTypes Tryd.prog) (ds ++ gs)).all (· ≤ reachBytes) = true := hsz0
  have hW' := hW
  obtain ⟨p, q, hA0, hV0, rfl, hfz, hnd⟩ := hW
  have hA : DataW.TrodAll enc Tryd.prog W 0 (fun _ => true) true Tryd.f7.params.toList args.toList ds p := hA0
  have hV : DataW.TrodVars enc Tryd.prog W (fun _ => true) [] gs q := hV0
  rw [Tryd.params7] at hA hsz
  obtain ⟨v0, d0, hargs, rfl, h0⟩ := trodAll_one hA
  obtain rfl : args = #[v0] := by cases args; simp_all
  obtain ⟨rfl, rfl⟩ : gs = [] ∧ q = [] := by
    cases gs with
    | nil => exact ⟨rfl, hV⟩
    | cons g r => exact absurd hV (by intro h; cases h)
  have w0 : Wt 26 d0 := fun n hn => by
    have := List.all_eq_true.1 hsz n (by
      show n ∈ DataW.weightsEach Tryd.prog (26 :: _) (d0 :: _)
      simp only [DataW.weightsEach, List.mem_append]
      exact .inl hn)
    exact of_decide_eq_true this
  obtain ⟨c0, s0, r0⟩ := trod_argC h0 w0
  have lt0 := trod_lt0 h0
  refine (grMachine_calls hL s0 r0).mono fun e W' ⟨he, bel⟩ => ?_
  subst he
  exact ⟨_, rfl, _, _, _, [], _, [], hW', trodAll_mk1 (shut_bool Tryd.underlying4 _), trodAll_mk1 (Below.trod laidOut (by kernel_rfl) (of_decide_eq_true (by kernel_rfl)) h0 bel lt0), rfl, bel.frame _, fun h => by cases h⟩
theorem grMachine_row : Rows.GrMachineSaid :=
  OpenClaim.holds_of_wide 7 Tryd.f7 rfl rfl rfl rfl rfl rfl rfl ⟨rfl, rfl, rfl, rfl, rfl⟩ rfl rfl rfl rfl rfl (by kernel_rfl) Tryd.func7 (by kernel_rfl)
    (of_decide_eq_true (by kernel_rfl)) (by unfold Func.isWrapper; rw [if_neg (of_decide_eq_false (by kernel_rfl))]; exact ⟨rfl, rfl⟩)
    (fun os started H enc _ => grMachine_lifted os started H enc)
theorem grMachine_card : Rows.GrMachineCardSaid :=
  Claim7.holds_tied_plain_at .later [] [.data, .data] true (true, "8157b7f6b5233d5117948f1d01160ad5be98bfe6ad9238096ab8a67f4c2e4d10") true
    grMachine_row (fun _ h => by cases h) (by kernel_rfl) (fun _ h => by cases h) grMachine_row_tie rfl ⟨rfl, rfl⟩ (by kernel_rfl) rfl
    (fun f fn hf hfn => by
      obtain rfl : f = 7 := (Option.some.inj ((show Tryd.prog.funcNamed "lodesman/lodesmanlaw23.GrMachine" = some 7 by kernel_rfl).symm.trans hf)).symm
      obtain rfl : fn = Tryd.f7 := (Option.some.inj (Tryd.func7.symm.trans hfn)).symm
      exact ⟨by kernel_rfl, fun j t ht => by
        rw [Tryd.params7] at ht
        match j with
          | 0 => simp at ht; subst ht; exact (show Tryd.prog.wantsStandIn 26 = false by kernel_rfl)
          | j + 1 => simp at ht⟩)
    (by kernel_rfl)
end Go.Sx
namespace Go.Proofs.YtndchmmclfidgaaDoor
theorem grMachine_holds : Rows.GrMachineCardSaid := Go.Sx.grMachine_card
#print axioms grMachine_holds
end Go.Proofs.YtndchmmclfidgaaDoor
