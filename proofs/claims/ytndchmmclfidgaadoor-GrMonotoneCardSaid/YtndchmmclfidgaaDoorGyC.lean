/- Proved: for every contract, formula and number that GrMonotone takes, the law returns true and what came in reads behind the call as it read before. Conditions: those of the row: the table of arities is laid as the text of the program lays it (the card ties it), and what came in fits the reach. -/
import Derived.Test.YtndchmmclfidgaaDoorGxQ
import Derived.Test.YtndchmmclfidgaaDoorGyB
import Derived.Test.YtndchmmclfidgaaDoorCards
import Derived.Test.YtndchmmclfidgaaDoorTie
import Derived.SevenTiedAt
set_option maxRecDepth 100000
set_option linter.unusedSimpArgs false
set_option linter.unusedVariables false
set_option linter.unnecessarySimpa false
namespace Go.Sx
open Go Go.Lg Go.Proofs Go.ChangeShapes Go.WideShapes Go.RowKit
open Go.Proofs.YtndchmmclfidgaaDoor

section
variable {H : Type} {enc : TypeId × Value → H} {W : World} {spare : Nat → Bool} {held : Bool}
theorem trod_argF {v : Value} {d : DataW H} {p : List MemPlace} (h : DataW.Trod enc Tryd.prog W 0 spare held 24 v d p) (hw : Wt 24 d) : ∃ f : Fm, Shrt f ∧ Rep (G0 W) (encF f) v := by
  obtain ⟨n, h⟩ := h
  obtain ⟨f, hs, hl, hr⟩ := (trod_F n).1 _ _ h hw
  refine ⟨f, hs, ?_⟩
  rw [encF_eq]
  cases v with
  | agg vs =>
    refine .agg _ vs ?_ fun i a u ha hu => hr i a u ha ?_
    · have : 3 = vs.toList.length := hl
      rw [Array.length_toList] at this
      exact this.symm
    · show vs.toList[i]? = some u
      rw [Array.getElem?_toList]; exact hu
  | _ => exact absurd hl (by simp [Value.cells])
theorem trod_lt0 {t : TypeId} {v : Value} {d : DataW H} {p : List MemPlace} (h : DataW.Trod enc Tryd.prog W 0 spare held t v d p) : ∀ x ∈ p, x.block < W.heap.size := by
  obtain ⟨m, hm⟩ := h
  exact DataW.trod_lt m _ _ _ hm
end
/-! ## GrMonotone -/
theorem mono_of {c d : Ct} (hi : d.inn = c.inn) (ho : d.out = c.out) (h : ∀ a b, CtOK c a b → MoreT (tab c a b) (tab d a b)) : MonoOK c d := by
  intro e1 e2
  have v1 : validC c = true := by
    unfold wonE at e1
    split at e1
    · assumption
    · cases e1
  have v2 : validC d = true := by
    unfold wonE at e2
    split at e2
    · assumption
    · cases e2
  obtain ⟨a, b, hc⟩ := valid_ct v1
  have h64 := n64 hc.toCtOK
  have q1 := hc.inn
  have q2 := hc.out
  have w1 : wonL c = bitsL (2 ^ (a + b)) (wonB (tab c a b)) := by
    unfold wonL; rw [if_pos v1, q1, q2, Int.toNat_natCast, Int.toNat_natCast]
  have w2 : wonL d = bitsL (2 ^ (a + b)) (wonB (tab d a b)) := by
    unfold wonL; rw [if_pos v2, hi, ho, q1, q2, Int.toNat_natCast, Int.toNat_natCast]
  have hm := won_more (h a b hc.toCtOK)
  rw [w1, w2]
  refine ⟨by simp [bitsL], fun l hl => ?_⟩
  unfold bitsL at hl ⊢
  by_cases hlt : l < 2 ^ (a + b)
  · simp only [List.getD_eq_getElem?_getD, List.getElem?_map, List.getElem?_range hlt, Option.map_some, Option.getD_some] at hl ⊢
    exact hm l hl
  · simp [List.getD_eq_getElem?_getD, hlt] at hl
theorem grmono_true {gl : GL} (har : gl.at' 0 = arityA) (c : Ct) (f : Fm) (i : Int) (hs : ShrtC c) (hf : Shrt f) : PCall (C gl) 5 [encC c, encF f, .int .i64 i] (.bool true) :=
  grmono_ok har c f i hs hf (fun _ => mono_of rfl rfl fun a b hc => tab_more hc f) (fun _ => mono_of rfl rfl fun a b hc => ⟨rfl, rfl, fun s g hg => ⟨g, hg, .refl _⟩, fun z j hj => ⟨j, hj, .refl _⟩⟩)
    (fun _ k hk => mono_of rfl rfl fun a b hc => tab_less hc k hk)
theorem grMonotone_calls {W : World} (h : laidMetH Tryd.prog Rows.grMonotoneRow.laid W) {c0 : Ct} (s0 : ShrtC c0) {c1 : Fm} (s1 : Shrt c1) {c2 : Int} {v0 v1 v2 : Value} (r0 : Rep (G0 W) (encC c0) v0) (r1 : Rep (G0 W) (encF c1) v1) (r2 : Rep (G0 W) (.int .i64 c2) v2) :
    Calls Tryd.prog 5 #[v0, v1, v2] W fun e W' => e = .returned (.bool true) ∧ Below W.heap.size W W' := by
  obtain ⟨σ', hc⟩ := (grmono_true (gl := glA) glA_at c0 c1 c2 s0 s1).call
  have := hc W (G0 W) W #[v0, v1, v2] (inv0 h) rfl (fun i x u hx hu => by
    match i with
    | 0 => cases hx; cases hu; exact r0
    | 1 => cases hx; cases hu; exact r1
    | 2 => cases hx; cases hu; exact r2
    | i + 3 => cases hx)
  refine (this.calls fun k => ?_).mono fun e W' ⟨G', u, he, hru, hi, _⟩ => ?_
  · exact fun d hd => by cases hd
  · cases hru
    exact ⟨he, hi.below⟩
theorem grMonotone_lifted (os : Os) (started : os.Started) (H : Type) (enc : TypeId × Value → H) :
    ReturnsInHanded {} Tryd.checked os 5 .any (fun w args => (Rows.grMonotoneSpec.pre enc Tryd.prog Tryd.f5 [] false w args ∧ laidMetH Tryd.prog Rows.grMonotoneRow.laid w) ∧ sizedMet enc Tryd.prog Tryd.f5 (OpenSpec.ofChange Rows.grMonotoneSpec) false w args)
      (Rows.grMonotoneSpec.post enc Tryd.prog Tryd.f5 false true false false) := by
  refine returnsInHanded_of_change_and (C := Tryd.checked) (X := fun w _ => laidMetH Tryd.prog Rows.grMonotoneRow.laid w) (fun _ _ _ hh h => h.of_heap hh) own0 started (by kernel_rfl) Tryd.func5
    (ChangeSpec.witness_at (enc := enc) (C := Tryd.checked) (os := os) (X := fun w _ => laidMetH Tryd.prog Rows.grMonotoneRow.laid w) false (laidWorld os) #[zeroC, .agg zeroF.toArray, .int .i64 0] 8 rfl (by kernel_rfl) (by kernel_rfl) (by kernel_rfl) (by kernel_rfl) (by kernel_rfl) (laidWorld_met os _)) ?_
  intro W base args ds gs before hval0 hW _ hsz0 hL _
  have hsz : (DataW.weightsEach Tryd.prog (Tryd.f5.params.toList ++ Rows.grMonotoneSpec.plain.varTypes Tryd.prog) (ds ++ gs)).all (· ≤ reachBytes) = true := hsz0
  have hW' := hW
  obtain ⟨p, q, hA0, hV0, rfl, hfz, hnd⟩ := hW
  have hA : DataW.TrodAll enc Tryd.prog W 0 (fun _ => true) true Tryd.f5.params.toList args.toList ds p := hA0
  have hV : DataW.TrodVars enc Tryd.prog W (fun _ => true) [] gs q := hV0
  rw [Tryd.params5] at hA hsz
  obtain ⟨v0, v1, v2, d0, d1, d2, q0, q1, q2, hargs, rfl, rfl, h0, h1, h2⟩ := trodAll_three hA
  obtain rfl : args = #[v0, v1, v2] := by cases args; simp_all
  obtain ⟨rfl, rfl⟩ : gs = [] ∧ q = [] := by
    cases gs with
    | nil => exact ⟨rfl, hV⟩
    | cons g r => exact absurd hV (by intro h; cases h)
  have w0 : Wt 26 d0 := fun n hn => by
    have := List.all_eq_true.1 hsz n (by
      show n ∈ DataW.weightsEach Tryd.prog (26 :: 24 :: 3 :: _) (d0 :: d1 :: d2 :: _)
      simp only [DataW.weightsEach, List.mem_append]
      exact .inl hn)
    exact of_decide_eq_true this
  have w1 : Wt 24 d1 := fun n hn => by
    have := List.all_eq_true.1 hsz n (by
      show n ∈ DataW.weightsEach Tryd.prog (26 :: 24 :: 3 :: _) (d0 :: d1 :: d2 :: _)
      simp only [DataW.weightsEach, List.mem_append]
      exact .inr (.inl hn))
    exact of_decide_eq_true this
  have w2 : Wt 3 d2 := fun n hn => by
    have := List.all_eq_true.1 hsz n (by
      show n ∈ DataW.weightsEach Tryd.prog (26 :: 24 :: 3 :: _) (d0 :: d1 :: d2 :: _)
      simp only [DataW.weightsEach, List.mem_append]
      exact .inr (.inr (.inl hn)))
    exact of_decide_eq_true this
  obtain ⟨c0, s0, r0⟩ := trod_argC h0 w0
  obtain ⟨c1, s1, r1⟩ := trod_argF h1 w1
  obtain ⟨c2, e2⟩ := okWide_int (k := .i64) Tryd.underlying3 (hval0 2 3 v2 (by kernel_rfl) rfl)
  have r2 : Rep (G0 W) (.int .i64 c2) v2 := by rw [e2]; exact .int _ _
  have lt0 := trod_lt0 h0
  have lt1 := trod_lt0 h1
  have lt2 := trod_lt0 h2
  refine (grMonotone_calls hL s0 s1 r0 r1 r2).mono fun e W' ⟨he, bel⟩ => ?_
  subst he
  exact ⟨_, rfl, _, _, _, [], _, [], hW', trodAll_mk1 (shut_bool Tryd.underlying4 _), trodAll_mk3 (Below.trod laidOut (by kernel_rfl) (of_decide_eq_true (by kernel_rfl)) h0 bel lt0) (Below.trod laidOut (by kernel_rfl) (of_decide_eq_true (by kernel_rfl)) h1 bel lt1) (Below.trod laidOut (by kernel_rfl) (of_decide_eq_true (by kernel_rfl)) h2 bel lt2), rfl, bel.frame _, fun h => by cases h⟩
theorem grMonotone_row : Rows.GrMonotoneSaid :=
  OpenClaim.holds_of_wide 5 Tryd.f5 rfl rfl rfl rfl rfl rfl rfl ⟨rfl, rfl, rfl, rfl, rfl⟩ rfl rfl rfl rfl rfl (by kernel_rfl) Tryd.func5 (by kernel_rfl)
    (of_decide_eq_true (by kernel_rfl)) (by unfold Func.isWrapper; rw [if_neg (of_decide_eq_false (by kernel_rfl))]; exact ⟨rfl, rfl⟩)
    (fun os started H enc _ => grMonotone_lifted os started H enc)
theorem grMonotone_card : Rows.GrMonotoneCardSaid :=
  Claim7.holds_tied_plain_at .later [] [.data] true (true, "8157b7f6b5233d5117948f1d01160ad5be98bfe6ad9238096ab8a67f4c2e4d10") true
    grMonotone_row (fun _ h => by cases h) (by kernel_rfl) (fun _ h => by cases h) grMonotone_row_tie rfl ⟨rfl, rfl⟩ (by kernel_rfl) rfl
    (fun f fn hf hfn => by
      obtain rfl : f = 5 := (Option.some.inj ((show Tryd.prog.funcNamed "lodesman/lodesmanlaw23.GrMonotone" = some 5 by kernel_rfl).symm.trans hf)).symm
      obtain rfl : fn = Tryd.f5 := (Option.some.inj (Tryd.func5.symm.trans hfn)).symm
      exact ⟨by kernel_rfl, fun j t ht => by
        rw [Tryd.params5] at ht
        match j with
          | 0 => simp at ht; subst ht; exact (show Tryd.prog.wantsStandIn 26 = false by kernel_rfl)
          | 1 => simp at ht; subst ht; exact (show Tryd.prog.wantsStandIn 24 = false by kernel_rfl)
          | 2 => simp at ht; subst ht; exact (show Tryd.prog.wantsStandIn 3 = false by kernel_rfl)
          | j + 3 => simp at ht⟩)
    (by kernel_rfl)
end Go.Sx
namespace Go.Proofs.YtndchmmclfidgaaDoor
theorem grMonotone_holds : Rows.GrMonotoneCardSaid := Go.Sx.grMonotone_card
#print axioms grMonotone_holds
end Go.Proofs.YtndchmmclfidgaaDoor
