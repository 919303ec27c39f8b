import Derived.Test.YtndchmmclfidgaaDoorTrD
import Derived.Test.YtndchmmclfidgaaDoorShA
import Derived.Test.YtndchmmclfidgaaDoorLgAv
set_option maxRecDepth 100000
set_option maxHeartbeats 4000000
set_option linter.unusedSimpArgs false
set_option linter.unusedVariables false
set_option linter.unnecessarySimpa false
namespace Go.Sx
open Go Go.Lg Go.Proofs
theorem b65 {gl : GL} : Body (C gl).P 65 Tryd.f65 (codeOf Tryd.f65) := ⟨Tryd.func65, by kernel_rfl, by kernel_rfl⟩
def bitV (o v : Int) : BitVec 64 := if o = 2 then 1#64 <<< v.toNat else 0#64
mutual
def bitsB : Fm → BitVec 64
  | .mk o v l => bitsL (bitV o v) l
def bitsL : BitVec 64 → List Fm → BitVec 64
  | a, [] => a
  | a, f :: l => bitsL (a ||| bitsB f) l
end
theorem bitsL_app : ∀ (l m : List Fm) (a : BitVec 64), bitsL a (l ++ m) = bitsL (bitsL a l) m
  | [], m, a => by rw [List.nil_append, bitsL]
  | f :: l, m, a => by rw [List.cons_append, bitsL, bitsL, bitsL_app l]
theorem bitsL_take {l : List Fm} {i : Nat} (a : BitVec 64) (h : i < l.length) : bitsL a (l.take (i + 1)) = bitsL a (l.take i) ||| bitsB l[i] := by
  rw [← List.take_append_getElem h, bitsL_app, bitsL, bitsL]
theorem wrap_bv (x : BitVec 64) : IntKind.i64.wrap (x.toNat : Int) = x.toInt := by
  have hlt := x.isLt
  rw [BitVec.toInt_eq_toNat_cond]
  have e : (x.toNat : Int) % (2 ^ IntKind.i64.bits : Int) = x.toNat := Int.emod_eq_of_lt (by omega) (by show (x.toNat : Int) < 2 ^ 64; omega)
  unfold IntKind.wrap
  simp only [e]
  show (if (true && decide ((x.toNat : Int) ≥ 2 ^ 63)) = true then (x.toNat : Int) - 2 ^ 64 else (x.toNat : Int)) = _
  simp only [Bool.true_and, decide_eq_true_eq]
  by_cases h : 2 * x.toNat < 2 ^ 64
  · rw [if_pos h, if_neg (by omega)]
  · rw [if_neg h, if_pos (by omega)]; rfl
theorem orI_bv (a b : BitVec 64) : orI .i64 a.toInt b.toInt = (a ||| b).toInt := by
  unfold orI
  show IntKind.i64.wrap ((BitVec.ofInt 64 a.toInt ||| BitVec.ofInt 64 b.toInt).toNat : Int) = _
  rw [BitVec.ofInt_toInt, BitVec.ofInt_toInt]
  exact wrap_bv _
theorem or_zero {a b : BitVec 64} (h : a ||| b = 0#64) : a = 0#64 ∧ b = 0#64 := BitVec.or_eq_zero_iff.1 h
section
variable {gl : GL}
theorem bits_k (o v : Int) (l : List Fm) (hA : okA (.mk o v l)) (ih : ∀ g, Ctr (C gl) 65 [encF g] (g ∈ l) (.int .i64 (bitsB g).toInt)) : PCall (C gl) 65 [encF (.mk o v l)] (.int .i64 (bitsB (.mk o v l)).toInt) := by
  have hlen := (shor_okA _ hA).1
  have hok := hA _ (nodes_self _)
  have hs : o = 2 → shlI .i64 1 v = (bitV o v).toInt ∧ 0 ≤ v := by
    rintro rfl
    rw [okNode_eq] at hok
    simp only [Bool.and_eq_true, if_true, decide_eq_true_eq] at hok
    obtain ⟨_, hv1, hv2⟩ := hok
    have hc : v = 0 ∨ v = 1 ∨ v = 2 ∨ v = 3 ∨ v = 4 ∨ v = 5 := by omega
    rcases hc with rfl | rfl | rfl | rfl | rfl | rfl <;> exact ⟨by decide, by omega⟩
  refine pcallX (callX_of b65 (by simp [Tryd.ntmps65]) ?_) (by simp only [AllCl, cl_encF, and_true]) (.int _ _)
  refine W.of ?_
  rw [Tryd.ntmps65]
  simp only [toK, codeOf, Tryd.f65, go_sem, seval, reduceCtorEq]
  rw [bitsB]
  have fin : ∀ a : BitVec 64, bitsL a [] = a := fun a => by rw [bitsL]
  cases h2 : (o == 2) with
  | true =>
    obtain ⟨e, h0⟩ := hs (eq_of_beq h2)
    generalize bitV o v = a at e
    have H := And.intro @h2 (And.intro @e (And.intro @h0 @fin))
    refine autoA ?_
    try exact trivial
    refine rangeA (l.length) [1, 13] [3] (fun i => [.int .i64 (bitsL a (l.take i)).toInt]) (fun i => (Sto.none.add (.box [.int .i64 o, .int .i64 v, .list false (encFs l)]))) ?_ ?_
    · intro i hi
      have e1 := (bitsL_take a hi).symm
      have H := And.intro @hi (And.intro @orI_bv @e1)
      refine autoA ?_
      try exact trivial
      exact cutA
    · rw [List.take_length]
      have H := trivial
      refine autoA ?_
      try exact trivial
      first | exact cut_none _ | exact finA
  | false =>
    have e : (0 : Int) = (bitV o v).toInt := by
      unfold bitV
      rw [if_neg (beq_eq_false_iff_ne.1 h2)]; decide
    have h0 : (bitV o v).toInt = 0 := e.symm
    generalize bitV o v = a at e h0
    have H := And.intro @h2 (And.intro @h0 @fin)
    refine autoA ?_
    try exact trivial
    refine rangeA (l.length) [1, 13] [3] (fun i => [.int .i64 (bitsL a (l.take i)).toInt]) (fun i => (Sto.none.add (.box [.int .i64 o, .int .i64 v, .list false (encFs l)]))) ?_ ?_
    · intro i hi
      have e1 := (bitsL_take a hi).symm
      have H := And.intro @hi (And.intro @orI_bv @e1)
      refine autoA ?_
      try exact trivial
      exact cutA
    · rw [List.take_length]
      have H := trivial
      refine autoA ?_
      try exact trivial
      first | exact cut_none _ | exact finA
theorem bits_ok (f : Fm) : okA f → PCall (C gl) 65 [encF f] (.int .i64 (bitsB f).toInt) := by
  induction f using Fm.ind with
  | h o v l ih =>
    intro h
    exact bits_k o v l h fun g => ⟨fun hg => ih g hg (okA_sub h hg)⟩
instance bits_i (f : Fm) : Ctr (C gl) 65 [encF f] (okA f) (.int .i64 (bitsB f).toInt) := ⟨bits_ok f⟩
end
end Go.Sx
