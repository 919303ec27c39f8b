import Derived.Test.YtndchmmclfidgaaDoorBdZ
import Derived.Test.YtndchmmclfidgaaDoorGxP
set_option maxRecDepth 100000
set_option linter.unusedSimpArgs false
set_option linter.unusedVariables false
set_option linter.unnecessarySimpa false
namespace Go.Sx
open Go Go.Lg Go.Proofs Go.ChangeShapes Go.WideShapes Go.RowKit
open Go.Proofs.YtndchmmclfidgaaDoor

/-! ## The table of arities, as it is laid -/
noncomputable def glA : GL := ⟨fun g => if g = 0 then arityA else [], fun g c hc => by
  split at hc
  · obtain ⟨k, _, rfl⟩ := List.mem_map.1 hc
    exact .int _ _
  · cases hc⟩
theorem glA_at : glA.at' 0 = arityA := rfl
theorem ginf : (Tryd.prog.globalNamed "lodesman/ltl.arity") = some 0 := by kernel_rfl
theorem gtyp : (Tryd.prog.globals[0]?).map (fun g => g.type) = some 153 := by kernel_rfl
theorem arity_laid {W : World} (h : laidMetH Tryd.prog Rows.grWinsRow.laid W) : ∀ (k : Nat) (c : AV), arityA[k]? = some c → ∃ v, W.cell? ⟨0, k, none⟩ = some v ∧ Rep (G0 W) c v := by
  have h : laidMet Tryd.prog [("lodesman/ltl.arity", Rows.laid_lodesman_ltl_arity)] W := h
  obtain ⟨ps, ⟨g, t, cs, fuel, p, q, h1, h2, h3, h4, _, _⟩, _, _⟩ := h
  obtain rfl := Option.some.inj (ginf.symm.trans h1)
  obtain rfl := Option.some.inj (gtyp.symm.trans h2)
  obtain ⟨xs, m, rfl, hx, hl, hxl, hE⟩ := DataW.trod_array Tryd.underlying153 h4
  have he : xs.map (·.1) = arityL.map fun n => DataW.lit (.int .i64 n) := by
    have := congrArg Prod.fst hx
    injection this with this
    exact this.symm
  intro k c hk
  unfold arityA at hk
  rw [List.getElem?_map] at hk
  obtain ⟨n, hn, rfl⟩ := Option.map_eq_some_iff.1 hk
  have hk14 : k < 14 := (List.getElem?_eq_some_iff.1 hn).1
  have hE1 := hE k hk14
  rw [cellsOf3, Nat.mul_one, List.getElem?_eq_getElem (by omega)] at hE1
  obtain ⟨j, e1, e2⟩ := trod_i64' hE1
  have e3 : ((cs.toList.drop k).take 1)[0]? = some (Value.int .i64 j) := by rw [e1]; rfl
  have e4 := take_at e3
  have e5 : (xs.map (·.1))[k]? = some (DataW.lit (.int .i64 j)) := by
    rw [List.getElem?_map, List.getElem?_eq_getElem (by omega), Option.map_some, e2]
  rw [he, List.getElem?_map, hn] at e5
  simp only [Option.map_some, Option.some.injEq, DataW.lit.injEq, Lit.int.injEq, true_and] at e5
  subst e5
  refine ⟨.int .i64 n, ?_, .int _ _⟩
  rw [World.var?_cell ginf h3 k]
  rw [Nat.add_zero, Array.getElem?_toList] at e4
  exact e4
theorem inv0 {W : World} (h : laidMetH Tryd.prog Rows.grWinsRow.laid W) : Inv (C glA).gl W (G0 W) Sto.none W where
  below := Below.refl _ _
  imm := fun b o v hv => hv
  gl := fun g k c hc => by
    have hc : (if g = 0 then arityA else [])[k]? = some c := hc
    split at hc
    · rename_i e
      subst e
      exact arity_laid h k c hc
    · simp at hc
  live := fun id o ho => by cases ho
  obj := fun id o B ho => by cases ho
  fresh := fun id _ => rfl
  inj := fun id id' o o' B B' ho => by cases ho
  has := fun id o ho => by cases ho
  freshT := fun id _ => rfl
  tok := ⟨fun id es n ho => (by cases ho), fun id id' b hb => (by obtain ⟨es, n, T, o, ho, _⟩ := hb; cases ho), fun id b hb => (by obtain ⟨es, n, T, o, ho, _⟩ := hb; cases ho)⟩
/-- A world in which the table is laid: for the witness. -/
noncomputable def laidWorld (os : Os) : World :=
  let w0 := World.holding Tryd.prog os ⟨#[], #[], []⟩
  { w0 with heap := w0.heap.modify 0 fun
      | .cells _ t frozen => .cells (arityL.map (Value.int .i64)).toArray t frozen
      | o => o }
theorem laidWorld_met (os : Os) (args : Array Value) : laidMetH Tryd.prog Rows.grWinsRow.laid ((laidWorld os).forCall (fun _ _ => 0) ⟨#[], args, []⟩).memory := by
  have : laidMet Tryd.prog [("lodesman/ltl.arity", Rows.laid_lodesman_ltl_arity)] ((laidWorld os).forCall (fun _ _ => 0) ⟨#[], args, []⟩).memory := laidMet_of_run' 8 (by kernel_rfl) (by kernel_rfl)
  exact this
/-- The zero contract. -/
def zeroC : Value := .agg ([Value.int .i64 0, .int .i64 0] ++ zeroF ++ zeroF ++ zeroF ++ zeroF ++ [Value.slice none 0 0, Value.slice none 0 0]).toArray
end Go.Sx
