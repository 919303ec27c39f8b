import Derived.Test.YtlhdjjnjhpfgoaaDoorQTrD
import Derived.Test.YtlhdjjnjhpfgoaaDoorLgAv
set_option maxRecDepth 100000
set_option linter.unusedSimpArgs false
set_option linter.unusedVariables false
namespace Go.Sx
open Go Go.Lg Go.Proofs
/-- The keys that were seen, as a map. -/
def seenE (ks : List ByteArray) : List (AV × AV) := ks.map fun k => (.str k, .bool true)
theorem seen_get (k : ByteArray) : ∀ ks : List ByteArray, (mget (.str k) (seenE ks)).getD (.bool false) = .bool (ks.any fun x => k == x)
  | [] => rfl
  | x :: ks => by
    have ih := seen_get k ks
    simp only [seenE, List.map_cons, mget, List.any_cons] at ih ⊢
    have e : (AV.str k).peq (.str x) = (k == x) := rfl
    rw [e]
    cases k == x with
    | true => rfl
    | false => rw [if_neg Bool.false_ne_true, Bool.false_or]; exact ih
theorem seen_put {k : ByteArray} : ∀ {ks : List ByteArray}, (ks.any fun x => k == x) = false → mput (.str k) (.bool true) (seenE ks) = seenE (ks ++ [k])
  | [], _ => rfl
  | x :: ks, h => by
    rw [List.any_cons, Bool.or_eq_false_iff] at h
    have ih := seen_put h.2
    simp only [seenE, List.map_cons, mput, List.cons_append] at ih ⊢
    have e : (AV.str k).peq (.str x) = (k == x) := rfl
    rw [e, h.1, if_neg Bool.false_ne_true, ih]
theorem seen_shp (ks : List ByteArray) : (∀ e : AV × AV, e ∈ seenE ks → e.1.shp = AV.str (tx [])) = True := eq_true fun e he => by
  obtain ⟨x, _, rfl⟩ := List.mem_map.1 he
  rfl
theorem seen_belO (m : Nat) (ks : List ByteArray) : BelO m (.mp (seenE ks)) = True := eq_true fun e he => by
  obtain ⟨x, _, rfl⟩ := List.mem_map.1 he
  exact of_eq_true (bel_bool _)
theorem seen_no {k : ByteArray} {ks : List ByteArray} (h : ∀ x ∈ ks, k.size < x.size) : (ks.any fun x => k == x) = false := by
  rw [List.any_eq_false]
  intro x hx hk
  have := ba_beq.1 hk
  have := h x hx
  subst k
  omega
end Go.Sx
