import Derived.Test.YtndchmmclfidgaaDoorGxE
import Derived.Test.YtndchmmclfidgaaDoorGxS
import Derived.Test.YtndchmmclfidgaaDoorLgX
set_option maxRecDepth 100000
set_option linter.unusedSimpArgs false
set_option linter.unusedVariables false
set_option linter.unnecessarySimpa false
namespace Go.Sx
open Go Go.Lg Go.Proofs
def encZ (n : Nat) (z : BitVec 64) : AV := .list false ((List.range n).map fun l => .bool (z.getLsbD l))
theorem belE_bits {m : Nat} (f : Nat → Bool) (l : List Nat) : BelE m (l.map fun l => .bool (f l)) = True := eq_true (belE_map (fun _ => .bool _) l)
theorem clE_bits (f : Nat → Bool) (l : List Nat) : ClE (l.map fun l => .bool (f l)) = True := eq_true (clE_map (fun _ => .bool _) l)
theorem okes_bits (f : Nat → Bool) (l : List Nat) : OKEs 1 (l.map fun l => .bool (f l)) = True := eq_true (okes_map fun _ => ⟨rfl, rfl⟩)
theorem cl_encZ (n : Nat) (z : BitVec 64) : Closed (encZ n z) = True := by simp only [encZ, cl_list, clE_bits]
attribute [go_sem] belE_bits clE_bits okes_bits cl_encZ
section
variable {gl : GL}
def anyN (p : Nat → Bool) : Nat → Bool
  | 0 => false
  | n + 1 => anyN p n || p n
theorem idx_lt {a b i o : Nat} (hi : i < 2 ^ a) (ho : o < 2 ^ b) : i + o * 2 ^ a < 2 ^ (a + b) := by
  have : (o + 1) * 2 ^ a ≤ 2 ^ b * 2 ^ a := Nat.mul_le_mul_right _ ho
  rw [Nat.add_mul, Nat.one_mul, ← Nat.pow_add, Nat.add_comm b a] at this
  omega
def beforeB (c : Ct) (a b x : Nat) (z : BitVec 64) : Bool := (List.range (2 ^ a)).all fun d => !holdsF x d c.se || anyN (fun l => holdsF x ((d + l * 2 ^ a : Nat) : Int) c.ss && z.getLsbD (d + l * 2 ^ a)) (2 ^ b)
end
def largeB (c : Ct) (a b : Nat) (z : BitVec 64) (j : Fm) (y : BitVec 64) (f : Fm) (x : BitVec 64) (k : Nat) : Bool :=
  (holdsF k k j && beforeB c a b k z) || (beforeB c a b k y || (!holdsF k k f && beforeB c a b k x))
def rXs (c : Ct) (a b : Nat) (z : BitVec 64) (j : Fm) (y : BitVec 64) (f : Fm) (x : BitVec 64) : BitVec 64 := setB (largeB c a b z j y f x) (2 ^ (a + b))
section
variable {gl : GL}
end
def RX (c : Ct) (a b : Nat) (z : BitVec 64) (j : Fm) (y : BitVec 64) (f : Fm) : BitVec 64 := itB (rXs c a b z j y f) 66 (allB (2 ^ (a + b)))
def rYs (c : Ct) (a b : Nat) (z : BitVec 64) (j : Fm) (y : BitVec 64) : BitVec 64 := orB ((orTrue c.je).map (RX c a b z j y))
def RY (c : Ct) (a b : Nat) (z : BitVec 64) (j : Fm) : BitVec 64 := itB (rYs c a b z j) 66 0#64
def rZs (c : Ct) (a b : Nat) (z : BitVec 64) : BitVec 64 := (orTrue c.js).foldl (fun out j => out &&& RY c a b z j) z
def RW (c : Ct) (a b : Nat) : BitVec 64 := itB (rZs c a b) 66 (allB (2 ^ (a + b)))
structure StabR (c : Ct) (a b : Nat) : Prop where
  x : ∀ z j y f, fixR (rXs c a b z j y f) (fun _ (u : Unit) => u) 67 (allB (2 ^ (a + b))) () = some (RX c a b z j y f, ())
  y : ∀ z j, fixR (rYs c a b z j) (fun _ (u : Unit) => u) 67 0#64 () = some (RY c a b z j, ())
  z : fixR (rZs c a b) (fun _ (u : Unit) => u) 67 (allB (2 ^ (a + b))) () = some (RW c a b, ())
def mixZ (n k : Nat) (w u : BitVec 64) : List AV := (List.range n).map fun l => AV.bool (if l < k then w.getLsbD l else u.getLsbD l)
def bitsA (n : Nat) (w : BitVec 64) : List AV := (List.range n).map fun l => AV.bool (w.getLsbD l)
theorem mix_len (n k : Nat) (w u : BitVec 64) : (mixZ n k w u).length = n := by simp [mixZ]
theorem bits_len (n : Nat) (w : BitVec 64) : (bitsA n w).length = n := by simp [bitsA]
theorem mix_0 (n : Nat) (w u : BitVec 64) : mixZ n 0 w u = bitsA n u := rfl
theorem belE_mix {m n k : Nat} {w u : BitVec 64} : BelE m (mixZ n k w u) = True := belE_bits _ _
theorem belE_bitsA {m n : Nat} {u : BitVec 64} : BelE m (bitsA n u) = True := belE_bits _ _
theorem clE_bitsA {n : Nat} {u : BitVec 64} : ClE (bitsA n u) = True := clE_bits _ _
theorem okes_mix {n k : Nat} {w u : BitVec 64} : OKEs 1 (mixZ n k w u) = True := okes_bits _ _
theorem okes_bitsA {n : Nat} {u : BitVec 64} : OKEs 1 (bitsA n u) = True := okes_bits _ _
attribute [go_sem] mix_len bits_len mix_0 belE_mix belE_bitsA clE_bitsA okes_mix okes_bitsA
section
variable {gl : GL}
end
def rkeptB (c : Ct) (a b : Nat) (z : BitVec 64) : Bool := (List.range (2 ^ a)).all fun i => !(holdsF i i c.ie && !anyN (fun l => holdsF ((i + l * 2 ^ a : Nat) : Int) ((i + l * 2 ^ a : Nat) : Int) c.is && z.getLsbD (i + l * 2 ^ a)) (2 ^ b))
section
variable {gl : GL}
end
end Go.Sx
