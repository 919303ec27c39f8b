import Derived.Test.YtlhdjjnjhpfgoaaDoorLgAw
import Derived.Test.YtlhdjjnjhpfgoaaDoorQTkG
set_option maxRecDepth 100000
set_option linter.unusedSimpArgs false
set_option linter.unusedVariables false
set_option linter.unnecessarySimpa false
namespace Go.Sx
open Go Go.Lg Go.Proofs

/-! ## How many nodes a normal form has -/
def cntC (o : Int) (cs : List (Int × Int)) : Int × Int :=
  let p0 := (cs.getD 0 (0, 0)).1
  let n0 := (cs.getD 0 (0, 0)).2
  let p1 := (cs.getD 1 (0, 0)).1
  let n1 := (cs.getD 1 (0, 0)).2
  if o = 0 ∨ o = 1 then (1, 1)
  else if o = 2 then (1, 2)
  else if o = 3 then (n0, p0)
  else if o = 8 ∨ o = 9 ∨ o = 10 then (1 + p0, 1 + n0)
  else if o = 7 then (3 + p0 + n0 + p1 + n1, 3 + p0 + n0 + p1 + n1)
  else if o = 6 then (1 + n0 + p1, 1 + p0 + n1)
  else if o = 13 then (1 + p0 + p1, 3 + p0 + n0 + 2 * n1)
  else (1 + p0 + p1, 1 + n0 + n1)
def cap61 (c : Int × Int) : Int × Int := (if 61 < c.1 then 61 else c.1, if 61 < c.2 then 61 else c.2)
mutual
def cntF : Fm → Int × Int
  | .mk o _ l => cap61 (cntC o (cntL l))
def cntL : List Fm → List (Int × Int)
  | [] => []
  | f :: l => cntF f :: cntL l
end
theorem cntC_nn (o : Int) (cs : List (Int × Int)) (h : ∀ c ∈ cs, 0 ≤ c.1 ∧ 0 ≤ c.2) : 0 ≤ (cntC o cs).1 ∧ 0 ≤ (cntC o cs).2 := by
  have hd : ∀ i, 0 ≤ (cs.getD i (0, 0)).1 ∧ 0 ≤ (cs.getD i (0, 0)).2 := by
    intro i
    rw [List.getD_eq_getElem?_getD]
    cases e : cs[i]? with
    | none => simp
    | some c => exact h c (List.mem_of_getElem? e)
  have h0 := hd 0
  have h1 := hd 1
  unfold cntC
  simp only
  repeat' split
  all_goals (simp only; omega)
mutual
theorem cntF_le : ∀ f : Fm, (0 ≤ (cntF f).1 ∧ (cntF f).1 ≤ 61) ∧ (0 ≤ (cntF f).2 ∧ (cntF f).2 ≤ 61)
  | .mk o v l => by
    have := cntC_nn o (cntL l) fun c hc => ⟨(cntL_le l c hc).1.1, (cntL_le l c hc).2.1⟩
    simp only [cntF, cap61]
    refine ⟨?_, ?_⟩ <;> split <;> omega
theorem cntL_le : ∀ l : List Fm, ∀ c ∈ cntL l, (0 ≤ c.1 ∧ c.1 ≤ 61) ∧ (0 ≤ c.2 ∧ c.2 ≤ 61)
  | [], c, hc => by simp [cntL] at hc
  | f :: l, c, hc => by
    rw [cntL] at hc
    rcases List.mem_cons.1 hc with rfl | hc
    · exact cntF_le f
    · exact cntL_le l c hc
end
/-- The array of the first counts. -/
def arrC (q : Nat → Int) (i : Nat) : List AV := [.int .i64 (if 0 < i then q 0 else 0), .int .i64 (if 1 < i then q 1 else 0)]
theorem arrC_wr (q : Nat → Int) (i : Nat) (h : i < 2) : wr (arrC q i) i [.int .i64 (q i)] = arrC q (i + 1) := by
  match i, h with
  | 0, _ => rfl
  | 1, _ => rfl
theorem belL_arrC {m : Nat} (q : Nat → Int) (i : Nat) : BelL m (arrC q i) = True := eq_true ⟨.int _ _, .int _ _, trivial⟩
attribute [go_sem] belL_arrC
section
variable {gl : GL}
theorem len_nodesL : ∀ l : List Fm, l.length ≤ (nodesL l).length
  | [] => Nat.le_refl _
  | .mk o v a :: l => by
    have := len_nodesL l
    simp only [nodesL, nodesF, List.length_cons, List.length_append]; omega
mutual
theorem shorF_of : ∀ f : Fm, (nodesF f).length < 1000000 → ShorF f
  | .mk o v l, h => by
    simp only [nodesF, List.length_cons] at h
    have := len_nodesL l
    exact ⟨by omega, shorFL_of l (by omega)⟩
theorem shorFL_of : ∀ l : List Fm, (nodesL l).length < 1000000 → ShorL l
  | [], _ => trivial
  | f :: l, h => by
    simp only [nodesL, List.length_append] at h
    exact ⟨shorF_of f (by omega), shorFL_of l (by omega)⟩
end
/-- What form answers. -/
def nnfS (yes : Bool) (f : Fm) : Fm × Int :=
  if validF f 6 then (if (if yes then (cntF f).1 else (cntF f).2) > 60 then (fz, 3) else (formF yes f, 0)) else (fz, 1)
end
end Go.Sx
