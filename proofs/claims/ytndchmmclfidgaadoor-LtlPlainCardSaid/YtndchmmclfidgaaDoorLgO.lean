/- Lg, part O: lists that are built by append. -/
import Derived.Test.YtndchmmclfidgaaDoorLgN
set_option linter.unusedVariables false
set_option linter.unusedSimpArgs false
namespace Go.Lg
open Go.RowKit

/-- What stands below m is as it was. -/
structure Low (m : Nat) (σ σ' : Sto) : Prop where
  get : ∀ i, i < m → σ'.get i = σ.get i
  next : σ.next ≤ σ'.next
theorem Low.refl (m : Nat) (σ : Sto) : Low m σ σ := ⟨fun _ _ => rfl, Nat.le_refl _⟩
theorem Low.trans {m : Nat} {σ σ1 σ2 : Sto} (h : Low m σ σ1) (k : Low m σ1 σ2) : Low m σ σ2 := ⟨fun i hi => (k.get i hi).trans (h.get i hi), Nat.le_trans h.next k.next⟩
theorem Low.add {m : Nat} {σ : Sto} (o : AObj) (hm : m ≤ σ.next) : Low m σ (σ.add o) := ⟨fun i hi => by simp only [Sto.get_add]; rw [if_neg (by omega)], by simp [Sto.next_add]⟩
theorem Low.set {m : Nat} {σ : Sto} (id : Nat) (o : AObj) (hm : m ≤ id) : Low m σ (σ.set id o) := ⟨fun i hi => by simp only [Sto.get_set]; rw [if_neg (by omega)], Nat.le_refl _⟩
theorem Low.kept {m : Nat} {σ σ' : Sto} (h : Kept 0 σ σ') (hm : m ≤ σ.next) : Low m σ σ' := ⟨fun i hi => h.get i (Nat.zero_le _) (by omega), h.next⟩

/-- Two steps, and what is known between them. -/
theorem WK.seqI {C : Cx} {ro : Option Nat} {nt : Nat} {x y : K} {Q : Exit → Env → Sto → Prop} {env : Env} {σ : Sto} (R : Env → Sto → Prop) (h1 : WK C ro nt x (fun e env' σ' => e = .normal ∧ R env' σ') env σ) (h2 : ∀ env' σ', R env' σ' → WK C ro nt y Q env' σ') :
    WK C ro nt (.seq x y) Q env σ :=
  WK.seq (h1.mono fun e env' σ' h => by
    obtain ⟨rfl, h⟩ := h
    exact h2 env' σ' h)

/-- Of one temporary less is said. -/
theorem WK.lessT {C : Cx} {ro : Option Nat} {nt : Nat} {k : K} {Q : Exit → Env → Sto → Prop} {env : Env} {σ : Sto} (t : Nat) {v : AV} (hv : (env t).le v) (h : WK C ro nt k Q (upd env t v) σ) : WK C ro nt k Q env σ :=
  WK.less (fun u => by
    show (env u).le (if u = t then v else env u)
    split
    · rename_i e; rw [e]; exact hv
    · exact .refl _) ⟨rfl, fun i o hi => .inl hi⟩ h
theorem rep1 {α : Type} (a : α) : List.replicate 1 a = [a] := rfl
theorem rep2 {α : Type} (a : α) : List.replicate 2 a = [a, a] := rfl
theorem rep3 {α : Type} (a : α) : List.replicate 3 a = [a, a, a] := rfl
theorem rep4 {α : Type} (a : α) : List.replicate 4 a = [a, a, a, a] := rfl
attribute [go_sem] rep1 rep2 rep3 rep4 List.set_cons_zero List.set_cons_succ Option.getD_some
end Go.Lg
