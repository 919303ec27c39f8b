/- Lg, part Rw: append to a row in a region that draws its order. -/
import Derived.Test.YtndchmmclfidgaaDoorLgX
set_option linter.unusedVariables false
set_option linter.unusedSimpArgs false
namespace Go.Lg
open Go.RowKit
theorem append_rr {C : Cx} {ρ : Operand → AV} {σ : Sto} {s x : Operand} {t t2 : TypeId} {ei : TyI} {id es n : Nat} {xs ys : List AV} {f : Bool}
    (hs : slE C t = some ei) (hv : ρ s = .row id 0 n) (hg : σ.get id = some (.row es xs false)) (he : es = ei.size) (hn : n = xs.length) (h1 : ∀ x ∈ xs, x.cells.all AV.one = true)
    (hx : (ρ x).fz = .list f ys) (ht2 : (slE C t2).isSome = true) (hy : OKEs es ys) (hz : ei.zero.cells.size = ei.size) (hb : (n + ys.length) * ei.bytes ≤ 140737488355328) (hb2 : n + ys.length ≤ 9223372036854775807) :
    (aop C ρ σ (.call ⟨.builtin .append, #[s, x], #[t, t2]⟩)).c ∧ (aop C ρ σ (.call ⟨.builtin .append, #[s, x], #[t, t2]⟩)).v = .row σ.next 0 (n + ys.length) ∧
      (aop C ρ σ (.call ⟨.builtin .append, #[s, x], #[t, t2]⟩)).s = (σ.del id).add (.row es (xs ++ ys) false) := by
  subst he
  have hsrc : (srcA C σ t2 ei.size (ρ x)).1 ∧ (srcA C σ t2 ei.size (ρ x)).2 = ys := by
    generalize ρ x = v at hx
    cases v with
    | own id' zs => simp only [AV.fz, AV.list.injEq] at hx; obtain ⟨_, rfl⟩ := hx; exact srcA_own ht2 hy
    | list f' zs => simp only [AV.fz, AV.list.injEq] at hx; obtain ⟨_, rfl⟩ := hx; exact srcA_list ht2 hy
    | _ => simp [AV.fz] at hx
  have e : aop C ρ σ (.call ⟨.builtin .append, #[s, x], #[t, t2]⟩) = appA C σ t2 ei (ρ s) (ρ x) := by
    show (match slE C t with | some ei => appA C σ t2 ei (ρ s) (ρ x) | none => bad σ) = _
    rw [hs]
  rw [e, hv]
  simp only [appA, hg, hsrc.2, List.drop_zero]
  exact ⟨⟨hsrc.1, by omega, trivial, h1, hz, hb, hb2⟩, trivial, trivial⟩
end Go.Lg
