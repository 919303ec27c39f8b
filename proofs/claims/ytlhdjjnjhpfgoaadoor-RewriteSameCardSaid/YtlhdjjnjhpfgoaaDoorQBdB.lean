import Derived.Test.YtlhdjjnjhpfgoaaDoorQBdZ
import Derived.Test.YtlhdjjnjhpfgoaaDoorQTkE
set_option maxRecDepth 100000
set_option linter.unusedSimpArgs false
set_option linter.unusedVariables false
set_option linter.unnecessarySimpa false
namespace Go.Sx
open Go Go.Lg Go.Proofs Go.ChangeShapes Go.WideShapes Go.RowKit
open Go.Proofs.YtlhdjjnjhpfgoaaDoor

/-! ## Tables, as they are laid -/
section
variable {H : Type} {enc : TypeId × Value → H} {W : World} {spare : Nat → Bool} {held : Bool}
theorem trod_bool' {n : Nat} {cs : List Value} {x : DataW H × List MemPlace} (h : DataW.trod enc Tryd.prog W 0 spare held n 4 cs = some x) : ∃ k : Bool, cs = [.bool k] ∧ x.1 = .lit (.bool k) := by
  cases n with
  | zero => simp [DataW.trod] at h
  | succ n =>
    unfold DataW.trod at h
    rw [Tryd.underlying4] at h
    split at h <;> simp_all
    rw [← h]
theorem trod_str' {n : Nat} {cs : List Value} {x : DataW H × List MemPlace} (h : DataW.trod enc Tryd.prog W 0 spare held n 9 cs = some x) : ∃ k : ByteArray, cs = [.string k] ∧ x.1 = .lit (.string k.data.toList) := by
  cases n with
  | zero => simp [DataW.trod] at h
  | succ n =>
    unfold DataW.trod at h
    rw [Tryd.underlying9] at h
    split at h <;> simp_all
    rw [← h.2]
end
/-- The variable reads so. -/
def Ent (W : World) (nm : String) (d : DataW Unit) : Prop :=
  ∃ g t cs fuel p, Tryd.prog.globalNamed nm = some g ∧ (Tryd.prog.globals[g]?).map (·.type) = some t ∧ W.var? Tryd.prog nm = some cs ∧ DataW.trod (fun _ => ()) Tryd.prog W 0 (fun _ => true) false fuel t cs.toList = some (d, p)
theorem laid_ent {W : World} {nm : String} {d : DataW Unit} : ∀ (L : List (String × DataW Unit)) (ps : List MemPlace), DataW.LaidVars Tryd.prog W L ps → (nm, d) ∈ L → Ent W nm d
  | (n, e) :: r, ps, ⟨g, t, cs, fuel, p, q, h1, h2, h3, h4, h5, _⟩, hm => by
    rcases List.mem_cons.1 hm with hm | hm
    · cases hm; exact ⟨g, t, cs, fuel, p, h1, h2, h3, h4⟩
    · exact laid_ent r q h5 hm
theorem ent_table {W : World} {nm : String} {g0 t0 n e : Nat} (lits : List Lit) (conv : Lit → AV) (hn : Tryd.prog.globalNamed nm = some g0) (hty : (Tryd.prog.globals[g0]?).map (·.type) = some t0)
    (hund : Tryd.prog.underlying t0 = some (.array n e)) (hce : Tryd.prog.cellsOf e = 1) (hlen : lits.length = n)
    (rd : ∀ (m : Nat) (cs : List Value) (x : DataW Unit × List MemPlace), DataW.trod (fun _ => ()) Tryd.prog W 0 (fun _ => true) false m e cs = some x → ∃ v, cs = [v] ∧ ∀ l, x.1 = .lit l → Rep (G0 W) (conv l) v)
    (h : Ent W nm (.agg (lits.map .lit))) : ∀ (k : Nat) (c : AV), (lits.map conv)[k]? = some c → ∃ v, W.cell? ⟨g0, k, none⟩ = some v ∧ Rep (G0 W) c v := by
  obtain ⟨g, t, cs, fuel, p, h1, h2, h3, h4⟩ := h
  obtain rfl := Option.some.inj (hn.symm.trans h1)
  obtain rfl := Option.some.inj (hty.symm.trans h2)
  obtain ⟨xs, m, rfl, hx, hl, hxl, hE⟩ := DataW.trod_array hund h4
  have he : xs.map (·.1) = lits.map DataW.lit := by
    have := congrArg Prod.fst hx
    injection this with this
    exact this.symm
  intro k c hk
  rw [List.getElem?_map] at hk
  obtain ⟨l, hn', rfl⟩ := Option.map_eq_some_iff.1 hk
  have hkn : k < n := by rw [← hlen]; exact (List.getElem?_eq_some_iff.1 hn').1
  have hE1 := hE k hkn
  rw [hce, Nat.mul_one, List.getElem?_eq_getElem (by omega)] at hE1
  obtain ⟨v, e1, e2⟩ := rd _ _ _ hE1
  have e3 : ((cs.toList.drop k).take 1)[0]? = some v := by rw [e1]; rfl
  have e4 := take_at e3
  have e5 : (xs.map (·.1))[k]? = some (xs[k]'(by omega)).1 := by
    rw [List.getElem?_map, List.getElem?_eq_getElem (by omega), Option.map_some]
  rw [he, List.getElem?_map, hn', Option.map_some] at e5
  refine ⟨v, ?_, e2 l (Option.some.inj e5).symm⟩
  rw [World.var?_cell hn h3 k]
  rw [Nat.add_zero, Array.getElem?_toList] at e4
  exact e4
def convL : Lit → AV
  | .int k n => .int k n
  | .bool b => .bool b
  | .string s => .str (tx s)
  | _ => .undef
/-- The four tables of ltl. -/
noncomputable def glB : GL := ⟨fun g => if g = 0 then arityA else if g = 1 then strengthA else if g = 2 then rightA else if g = 3 then signsA else [], fun g c hc => by
  split at hc
  · obtain ⟨k, _, rfl⟩ := List.mem_map.1 hc
    exact .int _ _
  split at hc
  · obtain ⟨k, _, rfl⟩ := List.mem_map.1 hc
    exact .int _ _
  split at hc
  · obtain ⟨k, _, rfl⟩ := List.mem_map.1 hc
    exact .bool _
  split at hc
  · obtain ⟨k, _, rfl⟩ := List.mem_map.1 hc
    exact .str _
  · cases hc⟩
structure Laid4 (W : World) : Prop where
  ar : Ent W "lodesman/ltl.arity" Rows.laid_lodesman_ltl_arity
  st : Ent W "lodesman/ltl.strength" Rows.laid_lodesman_ltl_strength
  ri : Ent W "lodesman/ltl.right" Rows.laid_lodesman_ltl_right
  si : Ent W "lodesman/ltl.signs" Rows.laid_lodesman_ltl_signs
theorem rdI {W : World} (m : Nat) (cs : List Value) (x : DataW Unit × List MemPlace) (h : DataW.trod (fun _ => ()) Tryd.prog W 0 (fun _ => true) false m 3 cs = some x) : ∃ v, cs = [v] ∧ ∀ l, x.1 = .lit l → Rep (G0 W) (convL l) v := by
  obtain ⟨k, e1, e2⟩ := trod_i64' h
  exact ⟨_, e1, fun l hl => by rw [e2] at hl; cases hl; exact .int _ _⟩
theorem rdB {W : World} (m : Nat) (cs : List Value) (x : DataW Unit × List MemPlace) (h : DataW.trod (fun _ => ()) Tryd.prog W 0 (fun _ => true) false m 4 cs = some x) : ∃ v, cs = [v] ∧ ∀ l, x.1 = .lit l → Rep (G0 W) (convL l) v := by
  obtain ⟨k, e1, e2⟩ := trod_bool' h
  exact ⟨_, e1, fun l hl => by rw [e2] at hl; cases hl; exact .bool _⟩
theorem rdS {W : World} (m : Nat) (cs : List Value) (x : DataW Unit × List MemPlace) (h : DataW.trod (fun _ => ()) Tryd.prog W 0 (fun _ => true) false m 9 cs = some x) : ∃ v, cs = [v] ∧ ∀ l, x.1 = .lit l → Rep (G0 W) (convL l) v := by
  obtain ⟨k, e1, e2⟩ := trod_str' h
  exact ⟨_, e1, fun l hl => by rw [e2] at hl; cases hl; rw [convL, tx_data]; exact .str _⟩
theorem invB {W : World} (h : Laid4 W) : Inv (C glB).gl W (G0 W) Sto.none W where
  below := Below.refl _ _
  imm := fun b o v hv => hv
  gl := fun g k c hc => by
    have hc : (if g = 0 then arityA else if g = 1 then strengthA else if g = 2 then rightA else if g = 3 then signsA else [])[k]? = some c := hc
    split at hc
    · rename_i e; subst e
      exact ent_table (arityL.map (Lit.int .i64)) convL (by kernel_rfl) (t0 := 61) (by kernel_rfl) Tryd.underlying61 cellsOf3 rfl rdI h.ar k c hc
    split at hc
    · rename_i e; subst e
      exact ent_table (strengthL.map (Lit.int .i64)) convL (by kernel_rfl) (t0 := 61) (by kernel_rfl) Tryd.underlying61 cellsOf3 rfl rdI h.st k c hc
    split at hc
    · rename_i e; subst e
      exact ent_table (rightL.map Lit.bool) convL (by kernel_rfl) (t0 := 90) (by kernel_rfl) Tryd.underlying90 (by kernel_rfl) rfl rdB h.ri k c hc
    split at hc
    · rename_i e; subst e
      exact ent_table (signsL.map Lit.string) convL (by kernel_rfl) (t0 := 95) (by kernel_rfl) Tryd.underlying95 (by kernel_rfl) rfl rdS h.si k c hc
    · simp at hc
  live := fun id o ho => by cases ho
  obj := fun id o B ho => by cases ho
  fresh := fun id _ => rfl
  inj := fun id id' o o' B B' ho => by cases ho
  has := fun id o ho => by cases ho
  freshT := fun id _ => rfl
  tok := ⟨fun id es n ho => (by cases ho), fun id id' b hb => (by obtain ⟨es, n, T, o, ho, _⟩ := hb; cases ho), fun id b hb => (by obtain ⟨es, n, T, o, ho, _⟩ := hb; cases ho)⟩
theorem laid4_of {W : World} {L : List (String × DataW Unit)} (h : laidMet Tryd.prog L W) (h1 : ("lodesman/ltl.arity", Rows.laid_lodesman_ltl_arity) ∈ L) (h2 : ("lodesman/ltl.strength", Rows.laid_lodesman_ltl_strength) ∈ L)
    (h3 : ("lodesman/ltl.right", Rows.laid_lodesman_ltl_right) ∈ L) (h4 : ("lodesman/ltl.signs", Rows.laid_lodesman_ltl_signs) ∈ L) : Laid4 W := by
  obtain ⟨ps, hl, _, _⟩ := h
  exact ⟨laid_ent L ps hl h1, laid_ent L ps hl h2, laid_ent L ps hl h3, laid_ent L ps hl h4⟩
def litsOf : DataW Unit → List Value
  | .agg ds => ds.map fun d => match d with | .lit l => l.value | _ => .bool false
  | _ => []
/-- A world in which the tables are laid: for the witness. -/
noncomputable def laidWorldB (os : Os) : World :=
  let w0 := World.holding Tryd.prog os ⟨#[], #[], []⟩
  let put (w : World) (g : Nat) (vs : List Value) : World := { w with heap := w.heap.modify g fun
      | .cells _ t frozen => .cells vs.toArray t frozen
      | o => o }
  put (put (put (put (put (put w0 0 (arityL.map (Value.int .i64))) 1 (strengthL.map (Value.int .i64))) 2 (rightL.map Value.bool)) 3 (signsL.map fun s => Value.string (tx s))) 4 (litsOf Go.Pinned.utf8First)) 5 (List.map (Value.int .u8) [128, 191, 160, 191, 128, 159, 144, 191, 128, 143, 0, 0, 0, 0, 0, 0, 0, 0, 0, 0, 0, 0, 0, 0, 0, 0, 0, 0, 0, 0, 0, 0])
theorem laidWorldB_met (os : Os) (args : Array Value) : laidMetH Tryd.prog Rows.rewritePushRow.laid ((laidWorldB os).forCall (fun _ _ => 0) ⟨#[], args, []⟩).memory := by
  have : laidMet Tryd.prog Rows.rewritePushRow.laid ((laidWorldB os).forCall (fun _ _ => 0) ⟨#[], args, []⟩).memory := laidMet_of_run' 8 (by kernel_rfl) (by kernel_rfl)
  exact this
end Go.Sx
