import Derived.Test.YtlhdjjnjhpfgoaaDoorQTkP
import Derived.Test.YtlhdjjnjhpfgoaaDoorLgAv
set_option maxRecDepth 100000
set_option linter.unusedSimpArgs false
set_option linter.unusedVariables false
set_option linter.unnecessarySimpa false
namespace Go.Sx
open Go Go.Lg Go.Proofs
theorem args012 {f : Fm} (h : okA f) : f.args = [] ∨ (∃ g, f.args = [g]) ∨ ∃ g h, f.args = [g, h] := by
  have hok := h f (by cases f; exact nodes_self _)
  obtain ⟨o, v, l⟩ := f
  rw [okNode_eq] at hok
  simp only [Bool.and_eq_true] at hok
  obtain ⟨⟨⟨ho1, ho2⟩, hal⟩, hv⟩ := hok
  replace ho1 := of_decide_eq_true ho1
  replace ho2 := of_decide_eq_true ho2
  replace hal := of_decide_eq_true hal
  simp only [fm_args]
  match l with
  | [] => exact .inl rfl
  | [g] => exact .inr (.inl ⟨g, rfl⟩)
  | [g, h] => exact .inr (.inr ⟨g, h, rfl⟩)
  | _ :: _ :: _ :: l =>
    rcases arL_nat o.toNat (by omega) with h | h | h <;> (rw [h] at hal; simp only [List.length_cons] at hal; omega)
theorem shor_okA (f : Fm) : okA f → ShorF f := by
  induction f using Fm.ind with
  | h o v l ih =>
    intro h
    have ih' := fun g hg => ih g hg (okA_sub h hg)
    have h3 := args012 h
    simp only [fm_args] at h3
    simp only [ShorF]
    rcases h3 with rfl | ⟨g, rfl⟩ | ⟨g, h', rfl⟩
    · exact ⟨by simp, trivial⟩
    · exact ⟨by simp, ih' g (by simp), trivial⟩
    · exact ⟨by simp, ih' g (by simp), ih' h' (by simp), trivial⟩
def nN (f : Fm) : Nat := (nodesF f).length
theorem nN_pos (f : Fm) : 1 ≤ nN f := by cases f; simp [nN, nodesF]
theorem nL_sub : ∀ {l : List Fm} {g : Fm}, g ∈ l → nN g ≤ (nodesL l).length
  | f :: l, g, h => by
    rw [nodesL, List.length_append]
    rcases List.mem_cons.1 h with rfl | h
    · exact Nat.le_add_right _ _
    · have := nL_sub h; omega
theorem nN_sub {o v : Int} {l : List Fm} {g : Fm} (h : g ∈ l) : nN g < nN (.mk o v l) := by
  have := nL_sub h
  simp only [nN, nodesF, List.length_cons] at this ⊢
  omega
theorem encFs_append' (a b : List Fm) : encFs a ++ encFs b = encFs (a ++ b) := by
  induction a with
  | nil => rfl
  | cons x l ih => simp only [List.cons_append, encFs, ih]
end Go.Sx
