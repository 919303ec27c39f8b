/- Proved: for every contract that GrWins takes, the law returns true and the contract reads behind the call as it read before. Conditions: those of the row: the table of arities is laid as the program's text lays it (the card ties it), and what came in fits the reach. -/
import Derived.Test.YtndchmmclfidgaaDoorGxQ
import Derived.Test.YtndchmmclfidgaaDoorCards
import Derived.Test.YtndchmmclfidgaaDoorTie
import Derived.SevenTiedAt
set_option maxRecDepth 100000
namespace Go.Sx
open Go Go.Proofs
open Go.Proofs.YtndchmmclfidgaaDoor
theorem wins_row : Rows.GrWinsSaid :=
  OpenClaim.holds_of_wide 3 Tryd.f3 rfl rfl rfl rfl rfl rfl rfl ⟨rfl, rfl, rfl, rfl, rfl⟩ rfl rfl rfl rfl rfl (by kernel_rfl) Tryd.func3 (by kernel_rfl)
    (of_decide_eq_true (by kernel_rfl)) (by unfold Func.isWrapper; rw [if_neg (of_decide_eq_false (by kernel_rfl))]; exact ⟨rfl, rfl⟩)
    (fun os started H enc _ => wins_lifted os started H enc)
theorem wins_card : Rows.GrWinsCardSaid :=
  Claim7.holds_tied_plain_at .later [] [.data] true (true, "8157b7f6b5233d5117948f1d01160ad5be98bfe6ad9238096ab8a67f4c2e4d10") true
    wins_row (fun _ h => by cases h) (by kernel_rfl) (fun _ h => by cases h) grWins_row_tie rfl ⟨rfl, rfl⟩ (by kernel_rfl) rfl
    (fun f fn hf hfn => by
      obtain rfl : f = 3 := (Option.some.inj ((show Tryd.prog.funcNamed "lodesman/lodesmanlaw23.GrWins" = some 3 by kernel_rfl).symm.trans hf)).symm
      obtain rfl : fn = Tryd.f3 := (Option.some.inj (Tryd.func3.symm.trans hfn)).symm
      exact ⟨by kernel_rfl, fun j t ht => by
        rw [Tryd.params3] at ht
        have h3 : t = 26 := by
          rcases j with _ | j
          · simpa using ht.symm
          · simp at ht
        subst h3
        exact (show Tryd.prog.wantsStandIn 26 = false by kernel_rfl)⟩)
    (by kernel_rfl)
end Go.Sx
namespace Go.Proofs.YtndchmmclfidgaaDoor
theorem grWins_holds : Rows.GrWinsCardSaid := Go.Sx.wins_card
#print axioms grWins_holds
end Go.Proofs.YtndchmmclfidgaaDoor
