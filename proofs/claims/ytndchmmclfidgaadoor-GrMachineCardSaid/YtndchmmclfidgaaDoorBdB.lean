import Derived.Test.YtndchmmclfidgaaDoorBdZ
import Derived.Test.YtndchmmclfidgaaDoorTkC
set_option maxRecDepth 100000
set_option linter.unusedSimpArgs false
set_option linter.unusedVariables false
set_option linter.unnecessarySimpa false
namespace Go.Sx
open Go Go.Lg Go.Proofs Go.ChangeShapes Go.WideShapes Go.RowKit
open Go.Proofs.YtndchmmclfidgaaDoor
section
variable {H : Type} {enc : TypeId × Value → H} {W : World} {spare : Nat → Bool} {held : Bool}
end
def Ent (W : World) (nm : String) (d : DataW Unit) : Prop :=
  ∃ g t cs fuel p, Tryd.prog.globalNamed nm = some g ∧ (Tryd.prog.globals[g]?).map (·.type) = some t ∧ W.var? Tryd.prog nm = some cs ∧ DataW.trod (fun _ => ()) Tryd.prog W 0 (fun _ => true) false fuel t cs.toList = some (d, p)
theorem laid_ent {W : World} {nm : String} {d : DataW Unit} : ∀ (L : List (String × DataW Unit)) (ps : List MemPlace), DataW.LaidVars Tryd.prog W L ps → (nm, d) ∈ L → Ent W nm d
  | (n, e) :: r, ps, ⟨g, t, cs, fuel, p, q, h1, h2, h3, h4, h5, _⟩, hm => by
    rcases List.mem_cons.1 hm with hm | hm
    · cases hm; exact ⟨g, t, cs, fuel, p, h1, h2, h3, h4⟩
    · exact laid_ent r q h5 hm
theorem ent_table {W : World} {nm : String} {g0 t0 n e : Nat} (lits : List Lit) (conv : Lit → AV) (hn : Tryd.prog.globalNamed nm = some g0) (hty : (Tryd.prog.globals[g0]?).map (·.type) = some t0)
    (hund : Tryd.prog.underlying t0 = some (.array n e)) (hce : Tryd.prog.cellsOf e = 1) (hlen : lits.length = n)
    (rd : ∀ (m : Nat) (cs : List Value) (x : DataW Unit × List MemPlace), DataW.trod (fun _ => ()) Tryd.prog W 0 (fun _ => true) false m e cs = some x → ∃ v, cs = [v] ∧ ∀ l, x.1 = .lit l → Rep (G0 W) (conv l) v)
    (h : Ent W nm (.agg (lits.map .lit))) : ∀ (k : Nat) (c : AV), (lits.map conv)[k]? = some c → ∃ v, W.cell? ⟨g0, k, none⟩ = some v ∧ Rep (G0 W) c v := by
  obtain ⟨g, t, cs, fuel, p, h1, h2, h3, h4⟩ := h
  obtain rfl := Option.some.inj (hn.symm.trans h1)
  obtain rfl := Option.some.inj (hty.symm.trans h2)
  obtain ⟨xs, m, rfl, hx, hl, hxl, hE⟩ := DataW.trod_array hund h4
  have he : xs.map (·.1) = lits.map DataW.lit := by
    have := congrArg Prod.fst hx
    injection this with this
    exact this.symm
  intro k c hk
  rw [List.getElem?_map] at hk
  obtain ⟨l, hn', rfl⟩ := Option.map_eq_some_iff.1 hk
  have hkn : k < n := by rw [← hlen]; exact (List.getElem?_eq_some_iff.1 hn').1
  have hE1 := hE k hkn
  rw [hce, Nat.mul_one, List.getElem?_eq_getElem (by omega)] at hE1
  obtain ⟨v, e1, e2⟩ := rd _ _ _ hE1
  have e3 : ((cs.toList.drop k).take 1)[0]? = some v := by rw [e1]; rfl
  have e4 := take_at e3
  have e5 : (xs.map (·.1))[k]? = some (xs[k]'(by omega)).1 := by
    rw [List.getElem?_map, List.getElem?_eq_getElem (by omega), Option.map_some]
  rw [he, List.getElem?_map, hn', Option.map_some] at e5
  refine ⟨v, ?_, e2 l (Option.some.inj e5).symm⟩
  rw [World.var?_cell hn h3 k]
  rw [Nat.add_zero, Array.getElem?_toList] at e4
  exact e4
def convL : Lit → AV
  | .int k n => .int k n
  | .bool b => .bool b
  | .string s => .str (tx s)
  | _ => .undef
noncomputable def glB : GL := ⟨fun g => if g = 0 then arityA else if g = 1 then strengthA else if g = 2 then rightA else if g = 3 then signsA else [], fun g c hc => by
  split at hc
  · obtain ⟨k, _, rfl⟩ := List.mem_map.1 hc
    exact .int _ _
  split at hc
  · obtain ⟨k, _, rfl⟩ := List.mem_map.1 hc
    exact .int _ _
  split at hc
  · obtain ⟨k, _, rfl⟩ := List.mem_map.1 hc
    exact .bool _
  split at hc
  · obtain ⟨k, _, rfl⟩ := List.mem_map.1 hc
    exact .str _
  · cases hc⟩
structure Laid4 (W : World) : Prop where
  ar : Ent W "lodesman/ltl.arity" Rows.laid_lodesman_ltl_arity
  st : Ent W "lodesman/ltl.strength" Rows.laid_lodesman_ltl_strength
  ri : Ent W "lodesman/ltl.right" Rows.laid_lodesman_ltl_right
  si : Ent W "lodesman/ltl.signs" Rows.laid_lodesman_ltl_signs
theorem rdI {W : World} (m : Nat) (cs : List Value) (x : DataW Unit × List MemPlace) (h : DataW.trod (fun _ => ()) Tryd.prog W 0 (fun _ => true) false m 3 cs = some x) : ∃ v, cs = [v] ∧ ∀ l, x.1 = .lit l → Rep (G0 W) (convL l) v := by
  obtain ⟨k, e1, e2⟩ := trod_i64' h
  exact ⟨_, e1, fun l hl => by rw [e2] at hl; cases hl; exact .int _ _⟩
def litsOf : DataW Unit → List Value
  | .agg ds => ds.map fun d => match d with | .lit l => l.value | _ => .bool false
  | _ => []
noncomputable def laidWorldB (os : Os) : World :=
  let w0 := World.holding Tryd.prog os ⟨#[], #[], []⟩
  let put (w : World) (g : Nat) (vs : List Value) : World := { w with heap := w.heap.modify g fun
      | .cells _ t frozen => .cells vs.toArray t frozen
      | o => o }
  put (put (put (put (put (put w0 0 (arityL.map (Value.int .i64))) 1 (strengthL.map (Value.int .i64))) 2 (rightL.map Value.bool)) 3 (signsL.map fun s => Value.string (tx s))) 5 (litsOf Go.Pinned.utf8First)) 6 (List.map (Value.int .u8) [128, 191, 160, 191, 128, 159, 144, 191, 128, 143, 0, 0, 0, 0, 0, 0, 0, 0, 0, 0, 0, 0, 0, 0, 0, 0, 0, 0, 0, 0, 0, 0])
end Go.Sx
