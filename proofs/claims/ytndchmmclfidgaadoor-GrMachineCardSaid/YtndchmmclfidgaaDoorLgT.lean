/- Lg, part T: what is asked of types, out of the program itself. -/
import Derived.Test.YtndchmmclfidgaaDoorLgM
import Derived.KernelRfl
set_option linter.unusedVariables false
set_option linter.unusedSimpArgs false
namespace Go.Lg
open Go.RowKit
noncomputable def tyP (P : Program) (t : TypeId) : Option TyI :=
  match P.underlying t, P.info? t with
  | some d, some r => match r.zero with
    | some z => some ⟨d, r.size, r.bytes, z⟩
    | none => none
  | _, _ => none
theorem tyP_ok (P : Program) (t : TypeId) (i : TyI) (h : tyP P t = some i) : P.underlying t = some i.desc ∧ ∃ r, P.info? t = some r ∧ r.size = i.size ∧ r.bytes = i.bytes ∧ r.zero = some i.zero := by
  unfold tyP at h
  cases h1 : P.underlying t with
  | none => rw [h1] at h; cases h
  | some d =>
    cases h2 : P.info? t with
    | none => rw [h1, h2] at h; cases h
    | some r =>
      rw [h1, h2] at h
      cases h3 : r.zero with
      | none => simp only [h3] at h; cases h
      | some z =>
        simp only [h3, Option.some.injEq] at h
        subst h
        exact ⟨rfl, r, rfl, rfl, rfl, h3⟩
instance : Inhabited TyI := ⟨⟨.bool, 0, 0, undef⟩⟩
noncomputable def tyX (P : Program) (t : TypeId) : TyI := (tyP P t).getD default
structure GL where
  at' : Nat → List AV
  cl : ∀ g c, c ∈ at' g → Closed c
noncomputable def cx (P : Program) (gl : GL) : Cx := ⟨P, gl.at', tyP P, tyP_ok P, gl.cl⟩
theorem rdC_agg {i : TyI} {n : Nat} (h1 : isAggD i.desc = true) (h2 : i.size = n) (cs : List AV) (k : Nat) : rdC i cs k = .agg ((cs.drop k).take n) := by simp only [rdC, h1, h2, if_true]
theorem rdC_one {i : TyI} (h1 : isAggD i.desc = false) (cs : List AV) (k : Nat) : rdC i cs k = cs.getD k .undef := by simp [rdC, h1]
theorem rdOK_agg {i : TyI} {n : Nat} (h1 : isAggD i.desc = true) (h2 : i.size = n) (cs : List AV) (k : Nat) : rdOK i cs k = (k + n ≤ cs.length) := by simp [rdOK, h1, h2]
theorem rdOK_one {i : TyI} (h1 : isAggD i.desc = false) (h2 : i.size = 1) (cs : List AV) (k : Nat) : rdOK i cs k = (k + 1 ≤ cs.length) := by simp [rdOK, h2]
theorem bldE_of {C : Cx} {t : TypeId} {z : List AV} {pl : Nat → Option (Nat × Nat)} (h : (bldE C t).map (·.1) = some z) (hp : ∀ i, (bldE C t).map (fun p => p.2 i) = some (pl i)) : bldE C t = some (z, pl) := by
  cases hb : bldE C t with
  | none => rw [hb] at h; cases h
  | some p =>
    obtain ⟨z', pl'⟩ := p
    rw [hb] at h
    simp only [Option.map_some, Option.some.injEq] at h
    subst h
    congr 2
    funext i
    have := hp i
    rw [hb] at this
    simpa using this
noncomputable def codeOf (fn : Func) : Code := match fn.body with | some c => c | none => .skip
end Go.Lg
