/- Lg, part Tm: a list that is appended to takes a number that was kept for it. -/
import Derived.Test.YtndchmmclfidgaaDoorLgX
set_option linter.unusedVariables false
set_option linter.unusedSimpArgs false
namespace Go.Lg
open Go.RowKit

def Sto.mv (σ : Sto) (r id : Nat) (o : AObj) : Sto := ⟨fun i => if i = r then some o else if i = id then Option.none else σ.get i, σ.next⟩
theorem Sto.get_mv (σ : Sto) (r id : Nat) (o : AObj) (i : Nat) : (σ.mv r id o).get i = if i = r then some o else if i = id then Option.none else σ.get i := (rfl)
theorem Sto.next_mv (σ : Sto) (r id : Nat) (o : AObj) : (σ.mv r id o).next = σ.next := (rfl)
attribute [go_sem] Sto.get_mv Sto.next_mv

/-! ### Scopes that are left by no goto -/
section
variable {P : Program} {b : Frame} {a : Act} {k : List Item} {cs : List Frame} {w : World} {F : Fence} {n : Nat}
theorem stepR_scope {c : Code} : step P (lone (b.atR a (.code (.scope c) :: k)) cs w) = .next (lone (b.atR a (.code c :: .inScope c :: k)) cs w) :=
  step_lone_go (by simp [stepG, stepG.exec, Frame.atR])
theorem stepR_inScope {c : Code} : step P (lone (b.atR a (.inScope c :: k)) cs w) = .next (lone (b.atR a k) cs w) :=
  step_lone_go (by simp [stepG, stepG.exec, Frame.atR])
theorem wpIn_scope {c : Code} {Q : Exit → Act → World → Prop} (hng : ∀ l a w, ¬ Q (.goto l) a w) (h : c.wpIn F n P Q a w) : (Code.scope c).wpIn F n P Q a w := by
  intro b k cs hro hb hr
  have h0 : (lone (b.atR a (.code (.scope c) :: k)) cs w).fenced P F := fenced_calm hb hr rfl
  obtain ⟨e, a₁, w₁, hq, harr⟩ := h b (.inScope c :: k) cs hro hb hr
  cases e with
  | normal => exact ⟨.normal, a₁, w₁, hq, .head h0 stepR_scope (StepsIn.trans harr (.one (fenced_calm hb hr rfl) stepR_inScope))⟩
  | exit id =>
    have hx : exitTo id (.inScope c :: k) = exitTo id k := by simp [exitTo]
    exact ⟨.exit id, a₁, w₁, hq, fun k' hk => .head h0 stepR_scope (harr.1 k' (by rw [hx]; exact hk)),
      fun hr' hk => let ⟨k₁, h1, h2⟩ := harr.2 hr' (by rw [hx]; exact hk); ⟨k₁, h1, .head h0 stepR_scope h2⟩⟩
  | goto l => exact absurd hq (hng l _ _)
  | ret => exact ⟨_, a₁, w₁, hq, .of_steps (.one h0 stepR_scope) harr⟩
  | panic ch => exact ⟨_, a₁, w₁, hq, .of_steps (.one h0 stepR_scope) harr⟩
  | outgrown => exact ⟨_, a₁, w₁, hq, .of_steps (.one h0 stepR_scope) harr⟩
end
theorem codeS_scope {C : Cx} {ro : Option Nat} {nt : Nat} {c : Code} {env env' : Env} {σ σ' : Sto} {e : Exit} (h : CodeS C ro nt c env σ e env' σ') (hng : ∀ l, e ≠ .goto l) : CodeS C ro nt (.scope c) env σ e env' σ' := by
  intro w0 G a w hr cr hcr
  exact wpIn_scope (fun l a w hp => hng l hp.1.symm) (h w0 G a w hr cr hcr)
theorem WK.scope {C : Cx} {ro : Option Nat} {nt : Nat} {c : Code} {Q : Exit → Env → Sto → Prop} {env : Env} {σ : Sto} (h : WK C ro nt (toK c) (fun e env σ => (∀ l, e ≠ .goto l) ∧ Q e env σ) env σ) : WK C ro nt (.oth (.scope c)) Q env σ := by
  intro c' hc
  have hc' : c' = .scope c := by
    cases c' with
    | region id' ops' d => cases d with
      | false => cases hc
      | true => simp only [toK, K.oth.injEq] at hc; cases hc
    | scope => simp only [toK, K.oth.injEq] at hc; exact hc
    | _ => first | (cases hc; done) | (simp only [toK, K.oth.injEq] at hc; exact hc)
  subst hc'
  obtain ⟨e, env', σ', h1, h2, h3⟩ := h c rfl
  exact ⟨e, env', σ', codeS_scope h1 h2, h3⟩
end Go.Lg
