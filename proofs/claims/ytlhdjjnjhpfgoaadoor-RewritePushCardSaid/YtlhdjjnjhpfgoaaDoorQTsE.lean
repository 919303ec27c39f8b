import Derived.Test.YtlhdjjnjhpfgoaaDoorQTrK
import Derived.Test.YtlhdjjnjhpfgoaaDoorLgAv
import Derived.Test.YtlhdjjnjhpfgoaaDoorLgAw
set_option maxRecDepth 100000
set_option maxHeartbeats 4000000
set_option linter.unusedSimpArgs false
set_option linter.unusedVariables false
set_option linter.unnecessarySimpa false
namespace Go.Sx
open Go Go.Lg Go.Proofs
/-! ## What a formula says of a word at a position -/
def untP (g h : Nat → Prop) (k : Nat) : Prop := ∃ j, k ≤ j ∧ h j ∧ ∀ i, k ≤ i → i < j → g i
def alwP (g : Nat → Prop) (k : Nat) : Prop := ∀ j, k ≤ j → g j
def svC (W : Nat → Int → Prop) (o v : Int) (l : List (Nat → Prop)) : Nat → Prop :=
  let g := l.getD 0 (fun _ => False)
  let h := l.getD 1 (fun _ => False)
  if o = 0 then fun _ => True
  else if o = 2 then fun k => W k v
  else if o = 3 then fun k => ¬ g k
  else if o = 4 then fun k => g k ∧ h k
  else if o = 5 then fun k => g k ∨ h k
  else if o = 6 then fun k => g k → h k
  else if o = 7 then fun k => (g k ↔ h k)
  else if o = 8 then fun k => g (k + 1)
  else if o = 9 then fun k => untP (fun _ => True) g k
  else if o = 10 then fun k => ¬ untP (fun _ => True) (fun i => ¬ g i) k
  else if o = 11 then fun k => untP g h k
  else if o = 12 then fun k => ¬ untP (fun i => ¬ g i) (fun i => ¬ h i) k
  else if o = 13 then fun k => untP g h k ∨ ¬ untP (fun _ => True) (fun i => ¬ g i) k
  else fun _ => False
mutual
def sv (W : Nat → Int → Prop) : Fm → Nat → Prop
  | .mk o v l => svC W o v (svL W l)
def svL (W : Nat → Int → Prop) : List Fm → List (Nat → Prop)
  | [] => []
  | f :: l => sv W f :: svL W l
end
section
variable {W : Nat → Int → Prop}
/-- g says what f says. -/
def SV (W : Nat → Int → Prop) (f g : Fm) : Prop := sv W g = sv W f
theorem SV.refl (f : Fm) : SV W f f := rfl
theorem SV.trans {f g h : Fm} (h1 : SV W f g) (h2 : SV W g h) : SV W f h := Eq.trans h2 h1
end
end Go.Sx

set_option maxRecDepth 100000
set_option maxHeartbeats 4000000
set_option linter.unusedSimpArgs false
set_option linter.unusedVariables false
set_option linter.unnecessarySimpa false
namespace Go.Sx
open Go Go.Lg Go.Proofs
section
variable {W : Nat → Int → Prop}
/-! ## Next ahead of variables alone -/
def nxtN : Nat → Fm → Fm
  | 0, f => f
  | n + 1, f => .mk 8 0 [nxtN n f]
def pshF : Nat → Fm → Nat → Fm
  | 0, f, _ => f
  | d + 1, .mk o v l, n => if o = 2 then nxtN n (.mk o v l) else if o = 8 then pshF d (l.getD 0 fz) (n + 1) else .mk o 0 (l.map fun g => pshF d g n)
end
end Go.Sx

set_option maxRecDepth 100000
set_option maxHeartbeats 4000000
set_option linter.unusedSimpArgs false
set_option linter.unusedVariables false
set_option linter.unnecessarySimpa false
namespace Go.Sx
open Go Go.Lg Go.Proofs
/-! ## Words that turn -/
def bitJ (l v : Int) : Bool := andI .i64 (shrI .i64 l v) 1 == 1
/-- The letter at a position. -/
def letS (s l : List Int) (k : Nat) : Int := if k < s.length then s.getD k 0 else l.getD ((k - s.length) % l.length) 0
def wdS (s l : List Int) (k : Nat) (v : Int) : Prop := bitJ (letS s l k) v = true
def turnsN (s l : List Int) : Nat := s.length + 2 * l.length
def posN (s l : List Int) (j : Nat) : Nat := if j < turnsN s l then j else s.length + (j - s.length) % l.length
def laterN (s l : List Int) (k : Nat) : List Nat := (List.range (turnsN s l)).map fun i => posN s l (k + i)
def Per (a d : Nat) (g : Nat → Prop) : Prop := ∀ i, a ≤ i → (g (i + d) ↔ g i)
theorem Per.not {a d : Nat} {g : Nat → Prop} (hg : Per a d g) : Per a d (fun i => ¬ g i) := fun i hi => not_congr (hg i hi)
theorem Per.T {a d : Nat} : Per a d (fun _ => True) := fun _ _ => Iff.rfl
theorem Per.mul {a d : Nat} {g : Nat → Prop} (hg : Per a d g) : ∀ (m i : Nat), a ≤ i → (g (i + m * d) ↔ g i)
  | 0, i, hi => by simp
  | m + 1, i, hi => by
    rw [Nat.succ_mul, ← Nat.add_assoc]
    exact (hg (i + m * d) (by omega)).trans (hg.mul m i hi)
/-- The search through positions. -/
def untB : List Nat → (Nat → Bool) → (Nat → Bool) → Bool
  | [], _, _ => false
  | j :: r, g, h => if h j then true else if g j then untB r g h else false
noncomputable def svB (s l : List Int) (f : Fm) (k : Nat) : Bool := @decide (sv (wdS s l) f k) (Classical.propDecidable _)
section
variable {s l : List Int} (hl : 0 < l.length)
include hl
end
end Go.Sx

set_option maxRecDepth 100000
set_option maxHeartbeats 4000000
set_option linter.unusedSimpArgs false
set_option linter.unusedVariables false
set_option linter.unnecessarySimpa false
namespace Go.Sx
open Go Go.Lg Go.Proofs
/-! ## The reference's truth of words -/
def intE (x : Int) : AV := .int .i64 x
def natE (x : Nat) : AV := .int .i64 (x : Int)
def encW (s l : List Int) : AV := .agg [.list false (s.map intE), .list false (l.map intE)]
def tabL (n : Nat) (p : Nat → Bool) : List AV := (List.range n).map fun i => AV.bool (p i)
theorem tab_len (n : Nat) (p : Nat → Bool) : (tabL n p).length = n := by simp [tabL]
theorem tab_0 (p : Nat → Bool) : tabL 0 p = [] := (rfl)
theorem tab_s (i : Nat) (p : Nat → Bool) : tabL i p ++ [.bool (p i)] = tabL (i + 1) p := by unfold tabL; rw [List.range_succ, List.map_append]; rfl
theorem tab_ok (i : Nat) (p : Nat → Bool) : OKEs 1 (tabL i p) = True := eq_true (okes_map fun _ => by simp only [go_sem, seval, reduceCtorEq])
theorem tab_bel (m i : Nat) (p : Nat → Bool) : BelE m (tabL i p) = True := eq_true (belE_map (fun _ => .bool _) _)
attribute [go_sem] tab_0 tab_s tab_ok tab_bel tab_len
/-- Words that the walks take. -/
structure WOK (s l : List Int) : Prop where
  pos : 0 < l.length
  few : s.length + 2 * l.length < 100000
section
variable {gl : GL}
end
end Go.Sx

set_option maxRecDepth 100000
set_option maxHeartbeats 4000000
set_option linter.unusedSimpArgs false
set_option linter.unusedVariables false
set_option linter.unnecessarySimpa false
namespace Go.Sx
open Go Go.Lg Go.Proofs
def filL (n : Nat) (q : Nat → Bool) (i : Nat) : List AV := (List.range i).map (fun j => AV.bool (q j)) ++ List.replicate (n - i) (.bool false)
theorem tab_take (n : Nat) (p : Nat → Bool) : (tabL n p).take n = tabL n p := List.take_of_length_le (by rw [tab_len]; exact Nat.le_refl _)
attribute [go_sem] tab_take
theorem fil_bel (m n : Nat) (q : Nat → Bool) (i : Nat) : BelE m (filL n q i) = True := eq_true (by unfold filL; rw [belE_append]; exact ⟨belE_map (fun _ => .bool _) _, belE_repl ⟨.bool _, trivial⟩⟩)
attribute [go_sem] fil_bel
section
variable {gl : GL}
end
end Go.Sx
