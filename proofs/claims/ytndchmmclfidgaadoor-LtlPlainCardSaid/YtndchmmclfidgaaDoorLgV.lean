import Derived.Test.YtndchmmclfidgaaDoorLgU
set_option maxRecDepth 100000
set_option linter.unusedVariables false
namespace Go.Lg
open Go
/-! ## Stores that a frozen row leaves as they were -/
theorem frz1_bel {m id : Nat} {es : List AV} {a : AV} (h : Bel m a) (hm : m ≤ id) : frz1 id es a = a := by
  cases h with
  | row i off len hi => show (if i = id then _ else _) = _; rw [if_neg (by omega)]
  | _ => rfl
/-- Every object of the store is below its next number, and so is what lies in it. -/
structure BSto (σ : Sto) : Prop where
  lt : ∀ i o, σ.get i = some o → i < σ.next
  bel : ∀ i cs, σ.get i = some (.box cs) → ∀ c ∈ cs, Bel σ.next c
theorem BSto.none : BSto Sto.none := ⟨fun i o h => absurd (show (Option.none : Option AObj) = some o from h) (fun e => by cases e), fun i cs h => absurd (show (Option.none : Option AObj) = some _ from h) (fun e => by cases e)⟩
theorem BSto.add {σ : Sto} {o : AObj} (h : BSto σ) (ho : BelO (σ.next + 1) o) : BSto (σ.add o) := by
  refine ⟨fun i o' hi => ?_, fun i cs hi c hc => ?_⟩
  · rw [Sto.get_add] at hi
    split at hi
    · rename_i e; rw [e, Sto.next_add]; exact Nat.lt_succ_self _
    · have := h.lt i o' hi
      rw [Sto.next_add]; omega
  · rw [Sto.get_add] at hi
    rw [Sto.next_add]
    split at hi
    · cases hi; exact ho c hc
    · exact (h.bel i cs hi c hc).up (Nat.le_succ _)
theorem cut_frz {σ : Sto} (h : BSto σ) (o : AObj) (es : List AV) : Cut σ ((σ.add o).frz σ.next es) σ := by
  refine ⟨Nat.le_refl _, Nat.le_succ _, fun i hi => .inr rfl, fun i o' hi ho => ⟨⟨o', ?_, .inl rfl⟩, .inl ho⟩⟩
  rw [Sto.get_frz, if_neg (by omega), Sto.get_add, if_neg (by omega), ho]
  cases o' with
  | box cs =>
    show some (AObj.box (cs.map (frz1 σ.next es))) = _
    rw [List.map_congr_left (f := frz1 σ.next es) (g := fun c => c) (fun c hc => frz1_bel (h.bel i cs ho c hc) (Nat.le_refl _)), List.map_id']
  | _ => rfl
theorem cut_none (σ' : Sto) : Cut Sto.none σ' Sto.none := ⟨Nat.le_refl _, Nat.zero_le _, fun i hi => .inl rfl, fun i o hi => absurd hi (Nat.not_lt_zero i)⟩
theorem frz1_bel' {m id : Nat} {es : List AV} {a : AV} (h : Bel m a) (he : BelE m es) : Bel m (frz1 id es a) := by
  cases h with
  | row i off len hi =>
    show Bel m (if i = id then _ else _)
    split
    · split
      · exact .list _ _ fun x hx => he x (List.mem_of_mem_drop (List.mem_of_mem_take hx))
      · exact .undef
    · exact .row i off len hi
  | undef => exact .undef
  | bool b => exact .bool b
  | int k n => exact .int k n
  | str s => exact .str s
  | list f xs h => exact .list f xs h
  | own i xs h1 h2 => exact .own i xs h1 h2
  | ptr i k h => exact .ptr i k h
  | rptr i j k h => exact .rptr i j k h
  | eptr cs k h => exact .eptr cs k h
  | nilp => exact .nilp
  | agg cs h => exact .agg cs h
  | tup cs h => exact .tup cs h
  | fn f cs h => exact .fn f cs h
  | yld l h => exact .yld l h
  | nilf => exact .nilf
  | map i h => exact .map i h
  | nilm => exact .nilm
  | iface t v h => exact .iface t v h
  | nili => exact .nili
theorem BSto.frz {σ : Sto} {id : Nat} {es : List AV} (h : BSto σ) (he : BelE σ.next es) : BSto (σ.frz id es) := by
  refine ⟨fun i o hi => ?_, fun i cs hi c hc => ?_⟩
  · rw [Sto.get_frz] at hi
    rw [Sto.next_frz]
    split at hi
    · cases hi
    · cases hg : σ.get i with
      | none => rw [hg] at hi; cases hi
      | some o' => exact h.lt i o' hg
  · rw [Sto.get_frz] at hi
    rw [Sto.next_frz]
    split at hi
    · cases hi
    · cases hg : σ.get i with
      | none => rw [hg] at hi; cases hi
      | some o' =>
        rw [hg] at hi
        cases o' with
        | box ds =>
          cases hi
          obtain ⟨d, hd, rfl⟩ := List.mem_map.1 hc
          exact frz1_bel' (h.bel i ds hg d hd) he
        | _ => cases hi
end Go.Lg
