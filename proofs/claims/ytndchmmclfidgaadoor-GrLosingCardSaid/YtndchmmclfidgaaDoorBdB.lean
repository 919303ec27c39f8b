import Derived.Test.YtndchmmclfidgaaDoorBdZ
import Derived.Test.YtndchmmclfidgaaDoorTkC
set_option maxRecDepth 100000
set_option linter.unusedSimpArgs false
set_option linter.unusedVariables false
set_option linter.unnecessarySimpa false
namespace Go.Sx
open Go Go.Lg Go.Proofs Go.ChangeShapes Go.WideShapes Go.RowKit
open Go.Proofs.YtndchmmclfidgaaDoor

/-! ## Tables, as they are laid -/
section
variable {H : Type} {enc : TypeId × Value → H} {W : World} {spare : Nat → Bool} {held : Bool}
end
/-- The variable reads so. -/
def Ent (W : World) (nm : String) (d : DataW Unit) : Prop :=
  ∃ g t cs fuel p, Tryd.prog.globalNamed nm = some g ∧ (Tryd.prog.globals[g]?).map (·.type) = some t ∧ W.var? Tryd.prog nm = some cs ∧ DataW.trod (fun _ => ()) Tryd.prog W 0 (fun _ => true) false fuel t cs.toList = some (d, p)
def convL : Lit → AV
  | .int k n => .int k n
  | .bool b => .bool b
  | .string s => .str (tx s)
  | _ => .undef
/-- The four tables of ltl. -/
noncomputable def glB : GL := ⟨fun g => if g = 0 then arityA else if g = 1 then strengthA else if g = 2 then rightA else if g = 3 then signsA else [], fun g c hc => by
  split at hc
  · obtain ⟨k, _, rfl⟩ := List.mem_map.1 hc
    exact .int _ _
  split at hc
  · obtain ⟨k, _, rfl⟩ := List.mem_map.1 hc
    exact .int _ _
  split at hc
  · obtain ⟨k, _, rfl⟩ := List.mem_map.1 hc
    exact .bool _
  split at hc
  · obtain ⟨k, _, rfl⟩ := List.mem_map.1 hc
    exact .str _
  · cases hc⟩
structure Laid4 (W : World) : Prop where
  ar : Ent W "lodesman/ltl.arity" Rows.laid_lodesman_ltl_arity
  st : Ent W "lodesman/ltl.strength" Rows.laid_lodesman_ltl_strength
  ri : Ent W "lodesman/ltl.right" Rows.laid_lodesman_ltl_right
  si : Ent W "lodesman/ltl.signs" Rows.laid_lodesman_ltl_signs
def litsOf : DataW Unit → List Value
  | .agg ds => ds.map fun d => match d with | .lit l => l.value | _ => .bool false
  | _ => []
/-- A world in which the tables are laid: for the witness. -/
noncomputable def laidWorldB (os : Os) : World :=
  let w0 := World.holding Tryd.prog os ⟨#[], #[], []⟩
  let put (w : World) (g : Nat) (vs : List Value) : World := { w with heap := w.heap.modify g fun
      | .cells _ t frozen => .cells vs.toArray t frozen
      | o => o }
  put (put (put (put (put (put w0 0 (arityL.map (Value.int .i64))) 1 (strengthL.map (Value.int .i64))) 2 (rightL.map Value.bool)) 3 (signsL.map fun s => Value.string (tx s))) 5 (litsOf Go.Pinned.utf8First)) 6 (List.map (Value.int .u8) [128, 191, 160, 191, 128, 159, 144, 191, 128, 143, 0, 0, 0, 0, 0, 0, 0, 0, 0, 0, 0, 0, 0, 0, 0, 0, 0, 0, 0, 0, 0, 0])
end Go.Sx
