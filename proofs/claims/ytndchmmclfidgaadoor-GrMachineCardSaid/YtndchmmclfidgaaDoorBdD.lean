import Derived.Test.YtndchmmclfidgaaDoorBdA
import Derived.Test.YtndchmmclfidgaaDoorBdB
import Derived.Test.YtndchmmclfidgaaDoorRgF
set_option maxRecDepth 100000
set_option linter.unusedSimpArgs false
set_option linter.unusedVariables false
set_option linter.unnecessarySimpa false
namespace Go.Sx
open Go Go.Lg Go.Proofs Go.ChangeShapes Go.WideShapes Go.RowKit
open Go.Proofs.YtndchmmclfidgaaDoor
noncomputable def glM : GL := ⟨fun g => if g = 0 then arityA else if g = 4 then dbA else [], fun g c hc => by
  split at hc
  · obtain ⟨k, _, rfl⟩ := List.mem_map.1 hc
    exact .int _ _
  split at hc
  · obtain ⟨k, _, rfl⟩ := List.mem_map.1 hc
    exact .int _ _
  · cases hc⟩
theorem rdU {W : World} (m : Nat) (cs : List Value) (x : DataW Unit × List MemPlace) (h : DataW.trod (fun _ => ()) Tryd.prog W 0 (fun _ => true) false m 5 cs = some x) : ∃ v, cs = [v] ∧ ∀ l, x.1 = .lit l → Rep (G0 W) (convL l) v := by
  cases m with
  | zero => simp [DataW.trod] at h
  | succ n =>
    unfold DataW.trod at h
    rw [Tryd.underlying5] at h
    split at h <;> simp_all
    rw [← h.2]
    intro l hl
    cases hl
    exact .int _ _
structure LaidM (W : World) : Prop where
  ar : Ent W "lodesman/ltl.arity" Rows.laid_lodesman_ltl_arity
  db : Ent W "math/bits.deBruijn64tab" Rows.laid_math_bits_deBruijn64tab
def dbL : List Lit := Lib.deBruijn64tab.map fun n : Nat => Lit.int .u8 (n : Int)
theorem dbL_conv : dbL.map convL = dbA := by
  unfold dbL dbA
  rw [List.map_map]; rfl
theorem dbL_laid : (Rows.laid_math_bits_deBruijn64tab : DataW Unit) = .agg (dbL.map .lit) := by kernel_rfl
theorem invM {W : World} (h : LaidM W) : Inv (C glM).gl W (G0 W) Sto.none W where
  below := Below.refl _ _
  imm := fun b o v hv => hv
  gl := fun g k c hc => by
    have hc : (if g = 0 then arityA else if g = 4 then dbA else [])[k]? = some c := hc
    split at hc
    · rename_i e; subst e
      exact ent_table (arityL.map (Lit.int .i64)) convL (by kernel_rfl) (t0 := 153) (by kernel_rfl) Tryd.underlying153 cellsOf3 rfl rdI h.ar k c hc
    split at hc
    · rename_i e; subst e
      have hd := h.db
      rw [dbL_laid] at hd
      have hc2 : dbA[k]? = some c := by assumption
      rw [← dbL_conv] at hc2
      exact ent_table dbL convL (by kernel_rfl) (t0 := 214) (by kernel_rfl) Tryd.underlying214 (by kernel_rfl) (by unfold dbL; rw [List.length_map]; rfl) rdU hd k c hc2
    · simp at hc
  live := fun id o ho => by cases ho
  obj := fun id o B ho => by cases ho
  fresh := fun id _ => rfl
  inj := fun id id' o o' B B' ho => by cases ho
  has := fun id o ho => by cases ho
  freshT := fun id _ => rfl
  tok := ⟨fun id es n ho => (by cases ho), fun id id' b hb => (by obtain ⟨es, n, T, o, ho, _⟩ := hb; cases ho), fun id b hb => (by obtain ⟨es, n, T, o, ho, _⟩ := hb; cases ho)⟩
theorem laidM_of {W : World} {L : List (String × DataW Unit)} (h : laidMet Tryd.prog L W) (h1 : ("lodesman/ltl.arity", Rows.laid_lodesman_ltl_arity) ∈ L) (h2 : ("math/bits.deBruijn64tab", Rows.laid_math_bits_deBruijn64tab) ∈ L) : LaidM W := by
  obtain ⟨ps, hl, _, _⟩ := h
  exact ⟨laid_ent L ps hl h1, laid_ent L ps hl h2⟩
noncomputable def laidWorldM (os : Os) : World :=
  let w0 := World.holding Tryd.prog os ⟨#[], #[], []⟩
  let put (w : World) (g : Nat) (vs : List Value) : World := { w with heap := w.heap.modify g fun
      | .cells _ t frozen => .cells vs.toArray t frozen
      | o => o }
  put (put w0 0 (arityL.map (Value.int .i64))) 4 (litsOf Rows.laid_math_bits_deBruijn64tab)
theorem laidWorldM_met (os : Os) (args : Array Value) : laidMetH Tryd.prog Rows.grMachineRow.laid ((laidWorldM os).forCall (fun _ _ => 0) ⟨#[], args, []⟩).memory := by
  have : laidMet Tryd.prog Rows.grMachineRow.laid ((laidWorldM os).forCall (fun _ _ => 0) ⟨#[], args, []⟩).memory := laidMet_of_run' 8 (by kernel_rfl) (by kernel_rfl)
  exact this
end Go.Sx
