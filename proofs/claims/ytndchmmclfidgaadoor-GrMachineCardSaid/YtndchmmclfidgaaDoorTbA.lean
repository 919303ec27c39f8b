import Derived.Test.YtndchmmclfidgaaDoorSxM
import Derived.Test.YtndchmmclfidgaaDoorLgAw
set_option maxRecDepth 100000
set_option linter.unusedSimpArgs false
set_option linter.unusedVariables false
namespace Go.Sx
open Go Go.Lg Go.Proofs
def intE (x : Int) : AV := .int .i64 x
def natE (x : Nat) : AV := .int .i64 (x : Int)
def tabL (n : Nat) (p : Nat → Bool) : List AV := (List.range n).map fun i => AV.bool (p i)
theorem clE_tab (n : Nat) (p : Nat → Bool) : ClE (tabL n p) := clE_map (fun _ => .bool _) _
theorem tab_len (n : Nat) (p : Nat → Bool) : (tabL n p).length = n := by simp [tabL]
theorem tab_get (n : Nat) (p : Nat → Bool) (i : Nat) (h : i < n) : (tabL n p).getD i .undef = .bool (p i) := by
  unfold tabL; rw [List.getD_eq_getElem?_getD, List.getElem?_map, List.getElem?_range h]; rfl
theorem tab_0 (p : Nat → Bool) : tabL 0 p = [] := (rfl)
theorem tab_s (i : Nat) (p : Nat → Bool) : tabL i p ++ [.bool (p i)] = tabL (i + 1) p := by unfold tabL; rw [List.range_succ, List.map_append]; rfl
theorem tabok (i : Nat) (p : Nat → Bool) : OKEs 1 (tabL i p) = True := eq_true (okes_map fun _ => by simp only [go_sem, seval, reduceCtorEq])
theorem tab_bel (m i : Nat) (p : Nat → Bool) : BelE m (tabL i p) = True := eq_true (belE_map (fun _ => .bool _) _)
attribute [go_sem] tab_0 tab_s tabok tab_bel tab_len
theorem nat_len (s : List Nat) : (s.map natE).length = s.length := List.length_map _
theorem nat_get (s : List Nat) (i : Nat) (h : i < s.length) : (s.map natE).getD i .undef = .int .i64 ((s.getD i 0 : Nat) : Int) := by
  rw [List.getD_eq_getElem?_getD, List.getD_eq_getElem?_getD, List.getElem?_map, List.getElem?_eq_getElem h]; rfl
theorem tab_set (n : Nat) (p : Nat → Bool) (y : Nat) (b : Bool) : (tabL n p).set y (.bool b) = tabL n (fun i => if i = y then b else p i) := by
  unfold tabL
  refine List.ext_getElem? fun i => ?_
  rw [List.getElem?_set, List.getElem?_map, List.getElem?_map, List.length_map, List.length_range]
  by_cases hi : i < n
  · rw [List.getElem?_range hi]
    by_cases e : y = i
    · subst e; rw [if_pos rfl, if_pos hi]; simp
    · rw [if_neg e]; simp [Ne.symm e]
  · rw [List.getElem?_eq_none (by simp; omega)]
    by_cases e : y = i
    · subst e; rw [if_pos rfl, if_neg hi]; rfl
    · rw [if_neg e]; rfl
end Go.Sx
