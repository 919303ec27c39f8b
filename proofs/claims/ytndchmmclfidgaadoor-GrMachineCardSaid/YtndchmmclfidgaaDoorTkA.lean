import Derived.Test.YtndchmmclfidgaaDoorLtlB
import Derived.Test.YtndchmmclfidgaaDoorLgW
import Derived.Test.YtndchmmclfidgaaDoorSxM
set_option maxRecDepth 100000
set_option linter.unusedSimpArgs false
set_option linter.unusedVariables false
set_option linter.unnecessarySimpa false
namespace Go.Sx
open Go Go.Lg Go.Proofs
def encT (l : Bs) : AV := .str (tx l)
theorem belE_T {m : Nat} (l : List Bs) : BelE m (l.map encT) = True := eq_true (belE_map (fun _ => .str _) l)
theorem okes_T (l : List Bs) : OKEs 1 (l.map encT) = True := eq_true (okes_map fun _ => ⟨rfl, rfl⟩)
theorem clE_T (l : List Bs) : ClE (l.map encT) = True := eq_true (clE_map (fun _ => .str _) l)
attribute [go_sem] belE_T okes_T clE_T
def pre (s p : Bs) : Bool := s.take p.length == p
section
variable {gl : GL}
def idxT (s : Bs) (l : List Bs) : Int := idxF (fun t => s == t) l 0
def setA (p : Nat → Bool) : List AV := (List.range 256).map fun i => .bool (p i)
theorem setA_len (p : Nat → Bool) : (setA p).length = 256 := by simp [setA]
theorem setA_take (p : Nat → Bool) : (setA p).take 256 = setA p := by rw [← setA_len p, List.take_length]
theorem ze229 : ofV (tX 229).zero = .agg (List.replicate 256 (.bool false)) := by kernel_rfl
theorem belL_setA {m : Nat} (p : Nat → Bool) : BelL m (setA p) = True := eq_true (belL_iff.2 fun c hc => by
  obtain ⟨i, _, rfl⟩ := List.mem_map.1 hc
  exact .bool _)
theorem setA_one (p : Nat → Bool) : (setA p).all AV.one = true := by simp [setA, List.all_eq_true, AV.one]
attribute [go_sem] setA_len setA_take ze229 belL_setA setA_one
def memN (cs : Bs) (i : Nat) : Bool := cs.any fun c => c.toNat == i
def rdrop (q : UInt8 → Bool) (s : Bs) : Bs := (s.reverse.dropWhile q).reverse
def alnumC : Bs := [97, 98, 99, 100, 101, 102, 103, 104, 105, 106, 107, 108, 109, 110, 111, 112, 113, 114, 115, 116, 117, 118, 119, 120, 121, 122, 48, 49, 50, 51, 52, 53, 54, 55, 56, 57]
def alnum (c : UInt8) : Bool := memN alnumC c.toNat
def trimS (s : Bs) : Bs := (rdrop alnum s).dropWhile alnum
def trueT : Bs := [116, 114, 117, 101]
def falseT : Bs := [102, 97, 108, 115, 101]
def nameS (s : Bs) : Bool :=
  if s == [] || decide ((s.length : Int) > 12) || (s == trueT) || (s == falseT) || decide (byI s 0 < 97) || decide (byI s 0 > 122) then false else trimS s == []
def badN (l : List Bs) (i : Nat) : Bool := !nameS (l.getD i []) || (l.take i).any fun t => l.getD i [] == t
def namedS (l : List Bs) : Int :=
  if (l.length : Int) > 6 then 6 else if (List.range l.length).any (badN l) then 4 else 0
end
end Go.Sx
