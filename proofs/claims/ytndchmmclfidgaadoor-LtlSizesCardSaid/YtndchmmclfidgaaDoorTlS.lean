import Derived.Test.YtndchmmclfidgaaDoorTkZ
import Derived.Test.YtndchmmclfidgaaDoorTkV
import Derived.Test.YtndchmmclfidgaaDoorTrB
import Derived.Test.YtndchmmclfidgaaDoorTkI
import Derived.Test.YtndchmmclfidgaaDoorLgAv
set_option maxRecDepth 100000
set_option maxHeartbeats 4000000
set_option linter.unusedSimpArgs false
set_option linter.unusedVariables false
set_option linter.unnecessarySimpa false
namespace Go.Sx
open Go Go.Lg Go.Proofs
theorem b12 {gl : GL} : Body (C gl).P 12 Tryd.f12 (codeOf Tryd.f12) := ⟨Tryd.func12, by kernel_rfl, by kernel_rfl⟩
theorem shor_allR (f : Fm) : ShorF f → ∀ acc, (∀ g ∈ acc, ShorF g) → ∀ g ∈ allR f acc, ShorF g := by
  induction f using Fm.ind with
  | h o v l ih =>
    intro hA acc hacc
    have hl : ∀ l' : List Fm, (∀ g ∈ l', g ∈ l) → ∀ acc, (∀ g ∈ acc, ShorF g) → ∀ g ∈ allRL l' acc, ShorF g := by
      intro l'
      induction l' with
      | nil => intro _ acc h g hg; rw [allRL] at hg; exact h g hg
      | cons x l' ih2 =>
        intro hm acc h g hg
        rw [allRL] at hg
        exact ih2 (fun z hz => hm z (List.mem_cons_of_mem _ hz)) _ (ih x (hm x (by simp)) (hA.2.mem x (hm x (by simp))) acc h) g hg
    intro g hg
    rw [allR] at hg
    unfold addR at hg
    split at hg
    · exact hl l (fun x hx => hx) acc hacc g hg
    · rcases List.mem_append.1 hg with hg | hg
      · exact hl l (fun x hx => hx) acc hacc g hg
      · rw [List.mem_singleton] at hg; rw [hg]; exact hA
theorem subS_shrt (f : Fm) : ∀ g ∈ (subS f).1, Shrt g := by
  intro g hg
  unfold subS at hg
  split at hg
  · rename_i hv
    exact shrt_of_shor _ (shor_allR f (valid_both hv).1 [] (fun _ h => by cases h) g hg)
  · cases hg
theorem subS_len (f : Fm) : (subS f).1.length < 1000000 := by
  unfold subS
  split
  · rename_i hv
    have hn : nN f ≤ 60 := ((validF_iff f 6).1 hv).2.2.1
    have := allR_len f []
    simp only [List.length_nil] at this
    show (allR f []).length < 1000000
    omega
  · simp
section
variable {gl : GL}
theorem ltlsizes_ok (hsg : gl.at' 3 = signsA) (har : gl.at' 0 = arityA) (hst : gl.at' 1 = strengthA) (hri : gl.at' 2 = rightA) (f g : Fm) (n : Int) (hs : Shrt f) (hsg' : Shrt g) :
    PCall (C gl) 12 [encF f, encF g, .int .i64 n] (.bool true) := by
  have haw : Ctr (C gl) 36 [] True (.bool true) := ⟨fun _ => awake2_ok hsg har hst hri⟩
  have hfew : ∀ f : Fm, Ctr (C gl) 26 [encF f, .int .i64 300] (Shrt f) (.bool (decide (nodesR 300 f ≤ 300))) := fun f => ⟨fun h => fewR_ok f h 300 (by omega) (by omega)⟩
  have h1 : Ctr (C gl) 49 [encF f] True (.tup [.int .i64 (sizS f).1, .int .i64 (sizS f).2.1, .int .i64 (sizS f).2.2.1, .int .i64 (sizS f).2.2.2]) := ⟨fun _ => wSize_ok har f hs⟩
  have h2 : Ctr (C gl) 50 [encF f] True (.tup [.int .i64 (sizS f).1, .int .i64 (sizS f).2.1, .int .i64 (sizS f).2.2.1, .int .i64 (sizS f).2.2.2]) := ⟨fun _ => rSize_ok f hs⟩
  have h3 : Ctr (C gl) 51 [encF f] True (.tup [.int .i64 (proS f).1, .int .i64 (proS f).2]) := ⟨fun _ => wProps_ok har f hs⟩
  have h4 : Ctr (C gl) 52 [encF f] True (.tup [.int .i64 (proS f).1, .int .i64 (proS f).2]) := ⟨fun _ => rProps_ok f hs⟩
  have h5 : Ctr (C gl) 53 [encF f] True (.tup [.list false (encFs (subS f).1), .int .i64 (subS f).2]) := ⟨fun _ => wSubs_ok har f hs⟩
  have h6 : Ctr (C gl) 54 [encF f] True (.tup [.list false (encFs (subS f).1), .int .i64 (subS f).2]) := ⟨fun _ => rSubs_ok f hs⟩
  have h7 : Ctr (C gl) 55 [encF f] True (.tup [.bool (safS f).1, .int .i64 (safS f).2]) := ⟨fun _ => wSafe_ok har f hs⟩
  have h8 : Ctr (C gl) 56 [encF f] True (.tup [.bool (safS f).1, .int .i64 (safS f).2]) := ⟨fun _ => rSafe_ok f hs⟩
  have h9 : Ctr (C gl) 57 [encF f, .int .i64 n] True (.bool (validF f n)) := ⟨fun _ => valid_ok har f hs n⟩
  have h10 : Ctr (C gl) 58 [encF f, .int .i64 n] True (.bool (validF f n)) := ⟨fun _ => validR_ok f hs n⟩
  have hr : ∀ a b, Ctr (C gl) 32 [encF a, encF b] (Shrt a) (.bool (sameF a b)) := fun a b => ⟨fun h => sameR_ok a h b⟩
  refine pcallX (callX_of b12 (by simp [Tryd.ntmps12]) ?_) (by simp only [AllCl, cl_encF, cl_int, and_true]) (.bool _)
  have eI : ∀ x : Int, (x == x) = true := fun x => beq_self_eq_true x
  have eB : ∀ x : Bool, (x == x) = true := fun x => beq_self_eq_true x
  have eS : ∀ f, sameF f f = true := sameF_self
  refine W.of ?_
  rw [Tryd.ntmps12]
  simp only [toK, codeOf, Tryd.f12, go_sem, seval, reduceCtorEq]
  cases k1 : decide (nodesR 300 f ≤ 300) with
  | false =>
    have H := @k1
    refine autoA ?_
    repeat' (first | (refine WK.draw (ops := #[_, _, _, _, _, _, _, _, _, _, _, _, _, _, _, _, _, _, _, _, _, _, _, _, _, _, _, _, _, _, _, _, _, _, _, _, _, _, _, _, _, _, _, _, _, _, _, _, _, _, _, _, _, _, _, _, _, _, _]) [dq 0 0, dq 0 0, dm, dq 1 0, dq 0 0, dm, dq 0 0, dq 0 0, dq 0 0, dq 0 0, dq 0 0, dq 0 0, dq 0 0, dq 0 0, dq 0 0, dq 0 0, dq 0 0, dq 0 0, dq 0 0, dq 0 0, dq 0 0, dq 0 0, dq 0 0, dq 0 0, dq 0 0, dq 0 0, dq 0 0, dq 0 0, dq 0 0, dq 0 0, dq 0 0, dq 0 0, dq 0 0, dq 0 0, dq 0 0, dq 0 0, dq 0 0, dq 0 0, dq 0 0, dq 0 0, dq 0 0, dq 0 0, dq 0 0, dq 0 0, dq 0 0, dq 0 0, dq 0 0, dq 0 0, dq 0 0, dq 0 0, dq 0 0, dq 0 0, dq 0 0, dq 0 0, dq 0 0, dq 0 0, dq 0 0, dq 0 0, dq 0 0] mixed (by kernel_rfl) ?_; refine autoA ?_) | (refine WK.draw (ops := #[_, _, _, _, _, _, _, _, _, _]) [dq 0 0, dq 0 0, dq 0 0, dq 0 0, dq 0 0, dq 0 0, dq 0 0, dq 0 0, dm, dq 0 0] mixed (by kernel_rfl) ?_; refine autoA ?_) | (refine WK.draw (ops := #[_, _, _, _, _, _, _, _, _, _, _, _, _, _, _, _]) [dq 0 0, dq 0 0, dm, dq 1 0, dq 1 0, dm, dq 0 0, dq 0 0, dq 0 0, dq 0 0, dm, dq 0 0, dq 0 0, dm, dq 0 0, dq 0 0] mixed (by kernel_rfl) ?_; refine autoA ?_))
    try exact trivial
    exact cut_none _
  | true =>
  cases k2 : decide (nodesR 300 g ≤ 300) with
  | false =>
    have H := And.intro @k1 @k2
    refine autoA ?_
    repeat' (first | (refine WK.draw (ops := #[_, _, _, _, _, _, _, _, _, _, _, _, _, _, _, _, _, _, _, _, _, _, _, _, _, _, _, _, _, _, _, _, _, _, _, _, _, _, _, _, _, _, _, _, _, _, _, _, _, _, _, _, _, _, _, _, _, _, _]) [dq 0 0, dq 0 0, dm, dq 1 0, dq 0 0, dm, dq 0 0, dq 0 0, dq 0 0, dq 0 0, dq 0 0, dq 0 0, dq 0 0, dq 0 0, dq 0 0, dq 0 0, dq 0 0, dq 0 0, dq 0 0, dq 0 0, dq 0 0, dq 0 0, dq 0 0, dq 0 0, dq 0 0, dq 0 0, dq 0 0, dq 0 0, dq 0 0, dq 0 0, dq 0 0, dq 0 0, dq 0 0, dq 0 0, dq 0 0, dq 0 0, dq 0 0, dq 0 0, dq 0 0, dq 0 0, dq 0 0, dq 0 0, dq 0 0, dq 0 0, dq 0 0, dq 0 0, dq 0 0, dq 0 0, dq 0 0, dq 0 0, dq 0 0, dq 0 0, dq 0 0, dq 0 0, dq 0 0, dq 0 0, dq 0 0, dq 0 0, dq 0 0] mixed (by kernel_rfl) ?_; refine autoA ?_) | (refine WK.draw (ops := #[_, _, _, _, _, _, _, _, _, _]) [dq 0 0, dq 0 0, dq 0 0, dq 0 0, dq 0 0, dq 0 0, dq 0 0, dq 0 0, dm, dq 0 0] mixed (by kernel_rfl) ?_; refine autoA ?_) | (refine WK.draw (ops := #[_, _, _, _, _, _, _, _, _, _, _, _, _, _, _, _]) [dq 0 0, dq 0 0, dm, dq 1 0, dq 1 0, dm, dq 0 0, dq 0 0, dq 0 0, dq 0 0, dm, dq 0 0, dq 0 0, dm, dq 0 0, dq 0 0] mixed (by kernel_rfl) ?_; refine autoA ?_))
    try exact trivial
    exact cut_none _
  | true =>
  have hSf : ShorF f := by
    have h := nodesR_min f 300 (by omega)
    have := of_decide_eq_true k1
    exact shorF_of f (by omega)
  have hlen := subS_len f
  have hshr := subS_shrt f
  generalize hS : subS f = q at h5 h6 hlen hshr
  obtain ⟨L, e⟩ := q
  simp only at h5 h6 hlen hshr
  have H := And.intro @k1 (And.intro @k2 (And.intro @eI (And.intro @eB (And.intro @eS @hSf))))
  refine autoA ?_
  repeat' (first | (refine WK.draw (ops := #[_, _, _, _, _, _, _, _, _, _, _, _, _, _, _, _, _, _, _, _, _, _, _, _, _, _, _, _, _, _, _, _, _, _, _, _, _, _, _, _, _, _, _, _, _, _, _, _, _, _, _, _, _, _, _, _, _, _, _]) [dq 0 0, dq 0 0, dm, dq 1 0, dq 0 0, dm, dq 0 0, dq 0 0, dq 0 0, dq 0 0, dq 0 0, dq 0 0, dq 0 0, dq 0 0, dq 0 0, dq 0 0, dq 0 0, dq 0 0, dq 0 0, dq 0 0, dq 0 0, dq 0 0, dq 0 0, dq 0 0, dq 0 0, dq 0 0, dq 0 0, dq 0 0, dq 0 0, dq 0 0, dq 0 0, dq 0 0, dq 0 0, dq 0 0, dq 0 0, dq 0 0, dq 0 0, dq 0 0, dq 0 0, dq 0 0, dq 0 0, dq 0 0, dq 0 0, dq 0 0, dq 0 0, dq 0 0, dq 0 0, dq 0 0, dq 0 0, dq 0 0, dq 0 0, dq 0 0, dq 0 0, dq 0 0, dq 0 0, dq 0 0, dq 0 0, dq 0 0, dq 0 0] mixed (by kernel_rfl) ?_; refine autoA ?_) | (refine WK.draw (ops := #[_, _, _, _, _, _, _, _, _, _]) [dq 0 0, dq 0 0, dq 0 0, dq 0 0, dq 0 0, dq 0 0, dq 0 0, dq 0 0, dm, dq 0 0] mixed (by kernel_rfl) ?_; refine autoA ?_) | (refine WK.draw (ops := #[_, _, _, _, _, _, _, _, _, _, _, _, _, _, _, _]) [dq 0 0, dq 0 0, dm, dq 1 0, dq 1 0, dm, dq 0 0, dq 0 0, dq 0 0, dq 0 0, dm, dq 0 0, dq 0 0, dm, dq 0 0, dq 0 0] mixed (by kernel_rfl) ?_; refine autoA ?_))
  try exact trivial
  refine rangeA (L.length) [3, 4, 19, 21] [] (fun i => []) (fun i => ((Sto.none.add (.box [.int .i64 f.op, .int .i64 f.var, .list false (encFs f.args)])).add (.box [.int .i64 g.op, .int .i64 g.var, .list false (encFs g.args)]))) ?_ ?_
  · intro i hi
    have hi2 := hshr L[i] (List.getElem_mem hi)
    have H := And.intro @hi (And.intro @eI (And.intro @eB (And.intro @eS @hi2)))
    refine autoA ?_
    repeat' (first | (refine WK.draw (ops := #[_, _, _, _, _, _, _, _, _, _, _, _, _, _, _, _, _, _, _, _, _, _, _, _, _, _, _, _, _, _, _, _, _, _, _, _, _, _, _, _, _, _, _, _, _, _, _, _, _, _, _, _, _, _, _, _, _, _, _]) [dq 0 0, dq 0 0, dm, dq 1 0, dq 0 0, dm, dq 0 0, dq 0 0, dq 0 0, dq 0 0, dq 0 0, dq 0 0, dq 0 0, dq 0 0, dq 0 0, dq 0 0, dq 0 0, dq 0 0, dq 0 0, dq 0 0, dq 0 0, dq 0 0, dq 0 0, dq 0 0, dq 0 0, dq 0 0, dq 0 0, dq 0 0, dq 0 0, dq 0 0, dq 0 0, dq 0 0, dq 0 0, dq 0 0, dq 0 0, dq 0 0, dq 0 0, dq 0 0, dq 0 0, dq 0 0, dq 0 0, dq 0 0, dq 0 0, dq 0 0, dq 0 0, dq 0 0, dq 0 0, dq 0 0, dq 0 0, dq 0 0, dq 0 0, dq 0 0, dq 0 0, dq 0 0, dq 0 0, dq 0 0, dq 0 0, dq 0 0, dq 0 0] mixed (by kernel_rfl) ?_; refine autoA ?_) | (refine WK.draw (ops := #[_, _, _, _, _, _, _, _, _, _]) [dq 0 0, dq 0 0, dq 0 0, dq 0 0, dq 0 0, dq 0 0, dq 0 0, dq 0 0, dm, dq 0 0] mixed (by kernel_rfl) ?_; refine autoA ?_) | (refine WK.draw (ops := #[_, _, _, _, _, _, _, _, _, _, _, _, _, _, _, _]) [dq 0 0, dq 0 0, dm, dq 1 0, dq 1 0, dm, dq 0 0, dq 0 0, dq 0 0, dq 0 0, dm, dq 0 0, dq 0 0, dm, dq 0 0, dq 0 0] mixed (by kernel_rfl) ?_; refine autoA ?_))
    try exact trivial
  · have H := And.intro @eI (And.intro @eB (And.intro @eS @hSf))
    refine autoA ?_
    repeat' (first | (refine WK.draw (ops := #[_, _, _, _, _, _, _, _, _, _, _, _, _, _, _, _, _, _, _, _, _, _, _, _, _, _, _, _, _, _, _, _, _, _, _, _, _, _, _, _, _, _, _, _, _, _, _, _, _, _, _, _, _, _, _, _, _, _, _]) [dq 0 0, dq 0 0, dm, dq 1 0, dq 0 0, dm, dq 0 0, dq 0 0, dq 0 0, dq 0 0, dq 0 0, dq 0 0, dq 0 0, dq 0 0, dq 0 0, dq 0 0, dq 0 0, dq 0 0, dq 0 0, dq 0 0, dq 0 0, dq 0 0, dq 0 0, dq 0 0, dq 0 0, dq 0 0, dq 0 0, dq 0 0, dq 0 0, dq 0 0, dq 0 0, dq 0 0, dq 0 0, dq 0 0, dq 0 0, dq 0 0, dq 0 0, dq 0 0, dq 0 0, dq 0 0, dq 0 0, dq 0 0, dq 0 0, dq 0 0, dq 0 0, dq 0 0, dq 0 0, dq 0 0, dq 0 0, dq 0 0, dq 0 0, dq 0 0, dq 0 0, dq 0 0, dq 0 0, dq 0 0, dq 0 0, dq 0 0, dq 0 0] mixed (by kernel_rfl) ?_; refine autoA ?_) | (refine WK.draw (ops := #[_, _, _, _, _, _, _, _, _, _]) [dq 0 0, dq 0 0, dq 0 0, dq 0 0, dq 0 0, dq 0 0, dq 0 0, dq 0 0, dm, dq 0 0] mixed (by kernel_rfl) ?_; refine autoA ?_) | (refine WK.draw (ops := #[_, _, _, _, _, _, _, _, _, _, _, _, _, _, _, _]) [dq 0 0, dq 0 0, dm, dq 1 0, dq 1 0, dm, dq 0 0, dq 0 0, dq 0 0, dq 0 0, dm, dq 0 0, dq 0 0, dm, dq 0 0, dq 0 0] mixed (by kernel_rfl) ?_; refine autoA ?_))
    try exact trivial
    exact cut_none _
end
end Go.Sx
