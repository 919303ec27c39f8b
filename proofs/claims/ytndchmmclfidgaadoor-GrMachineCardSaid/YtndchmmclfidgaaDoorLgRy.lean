/- Lg, part Rw: append to a row in a region that draws its order. -/
import Derived.Test.YtndchmmclfidgaaDoorLgX
import Derived.Test.YtndchmmclfidgaaDoorLgAw
set_option linter.unusedVariables false
set_option linter.unusedSimpArgs false
namespace Go.Lg
open Go.RowKit
end Go.Lg
namespace Go.Lg
open Go.RowKit
end Go.Lg
namespace Go.Lg
open Go.RowKit
theorem row_trunc {gl : Nat → List AV} {w0 w : World} {G : Gh} {σ : Sto} (h : Inv gl w0 G σ w) {id es m : Nat} {xs : List AV} (hs : σ.get id = some (.row es xs false)) :
    Inv gl w0 G (σ.set id (.row es (xs.take m) false)) w ∧ Ext G σ w G (σ.set id (.row es (xs.take m) false)) w := by
  obtain ⟨B, hj⟩ := h.has id _ hs (fun es n e => by cases e)
  obtain ⟨hb, vs, ty, g1, g2, g3, g4, g5, g6, g7⟩ := h.obj id _ B hs hj
  have hle : (xs.take m).length * es ≤ xs.length * es := Nat.mul_le_mul_right _ (by rw [List.length_take]; omega)
  have hget : ∀ (i : Nat) (x : AV), (xs.take m)[i]? = some x → xs[i]? = some x := fun i x hx => by
    rw [List.getElem?_take] at hx
    split at hx
    · exact hx
    · cases hx
  refine ⟨Inv.set h id _ _ B hs hj rfl rfl rfl rfl (fun _ _ => rfl) (fun k v hk => h.imm _ _ _ hk) ⟨vs, ty, g1, g2, g3, by omega, fun i x hx => g5 i x (hget i x hx), fun i x k c hx hc => g6 i x k c (hget i x hx) hc, fun k hk => ?_⟩, {
    le := .refl G
    size := Nat.le_refl _
    keep := fun b hb' hn => ⟨rfl, fun _ => rfl, by
      rintro (⟨i, o, B', hi, hj', rfl⟩ | ⟨i, es', n, T, k, hi, hT⟩)
      · rw [Sto.get_set] at hi
        split at hi
        · rename_i e; subst e; exact hn (.inl ⟨i, _, B', hs, hj', rfl⟩)
        · exact hn (.inl ⟨i, o, B', hi, hj', rfl⟩)
      · rw [Sto.get_set] at hi
        split at hi
        · cases hi
        · exact hn (.inr ⟨i, es', n, T, k, hi, hT⟩)⟩
    next := Nat.le_refl _ }⟩
  have := g7 k hk
  simp only [Bool.false_eq_true, false_and, if_false] at this ⊢
  exact this
theorem WK.rowtrunc {C : Cx} {ro : Option Nat} {nt : Nat} {k : K} {Q : Exit → Env → Sto → Prop} {env : Env} {σ : Sto} (id m : Nat) {es : Nat} {xs : List AV} (hid : σ.get id = some (.row es xs false))
    (h : WK C ro nt k Q env (σ.set id (.row es (xs.take m) false))) : WK C ro nt k Q env σ := by
  intro c hc
  obtain ⟨e, env', σ', h1, h2⟩ := h c hc
  refine ⟨e, env', σ', fun w0 G a w hr cr hcr => ?_, h2⟩
  obtain ⟨k1, k2⟩ := row_trunc (m := m) hr.inv hid
  refine wpIn_mono (h1 w0 G a w ⟨k1, hr.env.size, hr.env.rep⟩ cr hcr) fun e2 a' w' hp => ?_
  obtain ⟨g1, G2, ms, g2, g3, g4⟩ := hp
  exact ⟨g1, G2, ms, g2, k2.trans g3, g4⟩
end Go.Lg
