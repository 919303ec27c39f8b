import Derived.Test.YtlhdjjnjhpfgoaaDoorQTkN
import Derived.Test.YtlhdjjnjhpfgoaaDoorLgAv
set_option maxRecDepth 100000
set_option maxHeartbeats 4000000
set_option linter.unusedSimpArgs false
set_option linter.unusedVariables false
set_option linter.unnecessarySimpa false
namespace Go.Sx
open Go Go.Lg Go.Proofs

/-! ## The reference's sizes -/
def s40 (x : Int) : Int := if 1099511627776 < x then 1099511627776 else x
def sizC (o : Int) (P N : List Int) : Int × Int :=
  if o = 0 ∨ o = 1 then (1, 1)
  else if o = 2 then (1, 2)
  else if o = 3 then (N.getD 0 0, P.getD 0 0)
  else if o = 6 then (1 + N.getD 0 0 + P.getD 1 0, 1 + P.getD 0 0 + N.getD 1 0)
  else if o = 7 then (3 + P.getD 0 0 + P.getD 1 0 + N.getD 0 0 + N.getD 1 0, 3 + P.getD 0 0 + N.getD 1 0 + N.getD 0 0 + P.getD 1 0)
  else if o = 13 then (1 + P.getD 0 0 + P.getD 1 0, 3 + P.getD 0 0 + N.getD 1 0 + N.getD 0 0 + N.getD 1 0)
  else (1 + P.sum, 1 + N.sum)
mutual
def sizF : Fm → Int × Int
  | .mk o _ l => (s40 (sizC o (sizP l) (sizN l)).1, s40 (sizC o (sizP l) (sizN l)).2)
def sizP : List Fm → List Int
  | [] => []
  | f :: l => (sizF f).1 :: sizP l
def sizN : List Fm → List Int
  | [] => []
  | f :: l => (sizF f).2 :: sizN l
end
section
variable {gl : GL}
end
end Go.Sx

set_option maxRecDepth 100000
set_option maxHeartbeats 4000000
set_option linter.unusedSimpArgs false
set_option linter.unusedVariables false
set_option linter.unnecessarySimpa false
namespace Go.Sx
open Go Go.Lg Go.Proofs
theorem b8 {gl : GL} : Body (C gl).P 8 Tryd.f8 (codeOf Tryd.f8) := ⟨Tryd.func8, by kernel_rfl, by kernel_rfl⟩
def okA (f : Fm) : Prop := ∀ g ∈ nodesF f, okNode 6 g = true
theorem okA_sub {o v : Int} {l : List Fm} (h : okA (.mk o v l)) {g : Fm} (hg : g ∈ l) : okA g := fun x hx => h x (by rw [nodesF]; exact List.mem_cons_of_mem _ (nodesL_sub hg hx))
theorem c61_min (x : Int) : (if 61 < x then 61 else x) = min x 61 := by split <;> omega
def putF (i : Int) (b : Fm) : Fm → Fm
  | .mk o v l => if (o == 2 && v == i) = true then b else .mk o v (putL i b l)
where putL (i : Int) (b : Fm) : List Fm → List Fm
  | [] => []
  | f :: l => putF i b f :: putL i b l
section
variable {gl : GL}
theorem isR_ok (f : Fm) (hs : Shrt f) : PCall (C gl) 8 [encF f] (.bool (validF f 6)) := by
  refine pcallX (callX_of b8 (by simp [Tryd.ntmps8]) ?_) (by simp only [AllCl, cl_encF, and_true]) (.bool _)
  have hv : ∀ n, Ctr (C gl) 25 [encF f, .int .i64 n] True (.bool (validF f n)) := fun n => ⟨fun _ => validR_ok f hs n⟩
  refine W.of ?_
  rw [Tryd.ntmps8]
  simp only [toK, codeOf, Tryd.f8, go_sem, seval, reduceCtorEq]
  have H := trivial
  refine autoA ?_
  try exact trivial
  exact cut_none _
instance isR_i (f : Fm) : Ctr (C gl) 8 [encF f] (Shrt f) (.bool (validF f 6)) := ⟨isR_ok f⟩
theorem valid_both {f : Fm} (h : validF f 6 = true) : ShorF f ∧ okA f := by
  have := (validF_iff f 6).1 h
  exact ⟨shorF_of f (by omega), this.2.2.2⟩
instance copy_i (f : Fm) : Ctr (C gl) 22 [encF f] (ShorF f) (encF f) := ⟨copy_ok f⟩
/-- What Put answers. -/
def putA (f : Fm) (i : Int) (b : Fm) : Fm × Int :=
  if (!validF f 6 || !validF b 6) = true then (fz, 1)
  else if (decide (i < 0) || decide (6 ≤ i)) = true then (fz, 6)
  else if validF (putF i b f) 6 = true then (putF i b f, 0) else (fz, 3)
end
end Go.Sx
