import Derived.Test.YtndchmmclfidgaaDoorTlB
set_option maxRecDepth 100000
set_option linter.unusedSimpArgs false
set_option linter.unusedVariables false
set_option linter.unnecessarySimpa false
namespace Go.Sx
open Go Go.Lg Go.Proofs

/-! ## No bracket of what is written can be left out -/
def cnt (l : List Bs) : Nat := l.countP (· == [40])
def penB (f : Fm) (least : Int) : Nat := if arAt f.op = 2 ∧ stAt f.op < least then 1 else 0
def opR (f : Fm) : Prop := ∃ k : Nat, f.op = (k : Int) ∧ k < 14
def parP (l l' : List Bs) (ns : List Bs) (f : Fm) : Md → Prop
  | .pre => opR f ∧ cnt l' + cnt (tkS ns f) + (if arAt f.op = 2 then 1 else 0) ≤ cnt l
  | .bin least => opR f ∧ cnt l' + cnt (tkS ns f) + penB f least ≤ cnt l ∧ stops least (opS (nowS l')) = true
  | .loop least g => opR g → opR f ∧ stops least (opS (nowS l')) = true ∧ ∀ c, (arAt g.op = 2 → 1 ≤ c ∨ (least ≤ stAt g.op ∧ stops (nxt g.op) (opS (nowS l)) = true)) → cnt l' + cnt (tkS ns f) + penB f least ≤ cnt l + cnt (tkS ns g) + c
theorem lbr_nat (k j : Nat) : lbr k j = (decide (strengthL.getD j 0 < strengthL.getD k 0) || ((strengthL.getD j 0 == strengthL.getD k 0) && rightL.getD k false)) := by
  unfold lbr stAt riAt; simp only [Int.toNat_natCast]
theorem rbr_nat (k j : Nat) : rbr k j = (decide (strengthL.getD j 0 < strengthL.getD k 0) || ((strengthL.getD j 0 == strengthL.getD k 0) && !rightL.getD k false)) := by
  unfold rbr stAt riAt; simp only [Int.toNat_natCast]
/-! ## Brackets in what is written -/
/-- The places of the open brackets, the last one ahead. -/
def stk : Nat → List Nat → Bs → Option (List Nat)
  | _, st, [] => some st
  | i, st, c :: r => if c == 40 then stk (i + 1) (i :: st) r else if c == 41 then (match st with | [] => none | _ :: st' => stk (i + 1) st' r) else stk (i + 1) st r
def Bal (s : Bs) : Prop := ∀ i st r, stk i st (s ++ r) = stk (i + s.length) st r
/-- The text with two bytes made blank. -/
def blank2 (s : Bs) (k i : Nat) : Bs := s.take k ++ [32] ++ (s.take i).drop (k + 1) ++ [32] ++ s.drop (i + 1)
theorem wr_len (ns : List Bs) (hn : namedS ns = 0) (f : Fm) : (∀ g ∈ nodesF f, okNode ns.length g = true) → (wrS ns f).length ≤ 20 * (nodesF f).length := by
  induction f using Fm.ind with
  | h o v l ih =>
    intro hok
    have hsub : ∀ g ∈ l, ∀ x ∈ nodesF g, okNode ns.length x = true := fun g hg x hx => hok x (by rw [nodesF]; exact List.mem_cons_of_mem _ (nodesL_sub hg hx))
    obtain ⟨k, rfl, hk, hal, hv2, hv0⟩ := node_of (hok _ (nodes_self _))
    have hs5 : ∀ k, k < 14 → (signsL.getD k []).length ≤ 5 := by decide
    have hsk := hs5 k hk
    have hbk : ∀ (b : Bool) (s : Bs), (brk b s).length ≤ s.length + 2 := fun b s => by cases b <;> simp [brk]
    rcases arL_nat k hk with ha | ha | ha
    · rw [ha] at hal
      have := args0 hal
      subst this
      have hn1 : (nodesF (.mk k v [])).length = 1 := rfl
      rw [hn1]
      cases q : ((k : Int) == 2) with
      | true =>
        have hk2 : k = 2 := by have := eq_of_beq q; omega
        obtain ⟨i, rfl, hi⟩ := hv2 hk2
        have hw := (name_word (named_at hn hi).1).2.2.2
        have e3 : ns.getD i [] = ns[i] := by simp [List.getD_eq_getElem?_getD, hi]
        have e : wrS ns (.mk k i []) = ns[i] := by simp only [wrS, wrC, arAt, Int.toNat_natCast, ha, q, e3, beq_self_eq_true, if_true]
        rw [e]; omega
      | false =>
        have e : wrS ns (.mk k v []) = signsL.getD k [] := by
          simp only [wrS, wrC, arAt, Int.toNat_natCast, ha, q, signAt, beq_self_eq_true, if_true, Bool.false_eq_true, if_false]
        rw [e]; omega
    · rw [ha] at hal
      obtain ⟨g, rfl⟩ := args1 hal
      have e := ih g (by simp) (hsub g (by simp))
      have z1 : ((1 : Int) == 0) = false := by decide
      have hnn : (nodesF (.mk k v [g])).length = (nodesF g).length + 1 := by simp [nodesF, nodesL]
      rw [hnn]
      simp only [wrS, wrL, wrC, arAt, Int.toNat_natCast, ha, z1, beq_self_eq_true, if_true, Bool.false_eq_true, if_false, signAt, List.length_append]
      have hb := hbk (arityL.getD g.op.toNat 0 == 2) (wrS ns g)
      have hx : (if ((k : Int) == 3) = true then ([] : Bs) else [32]).length ≤ 1 := by split <;> simp
      omega
    · rw [ha] at hal
      obtain ⟨g, h, rfl⟩ := args2 hal
      have e1 := ih g (by simp) (hsub g (by simp))
      have e2 := ih h (by simp) (hsub h (by simp))
      have z1 : ((2 : Int) == 0) = false := by decide
      have z2 : ((2 : Int) == 1) = false := by decide
      have hnn : (nodesF (.mk k v [g, h])).length = (nodesF g).length + (nodesF h).length + 1 := by simp [nodesF, nodesL]
      rw [hnn]
      simp only [wrS, wrL, wrC, arAt, Int.toNat_natCast, ha, z1, z2, beq_self_eq_true, if_true, Bool.false_eq_true, if_false, signAt, List.length_append, List.length_cons, List.length_nil]
      have h1 := hbk (decide (stAt g.op < stAt k) || ((stAt g.op == stAt k) && riAt k)) (wrS ns g)
      have h2 := hbk (decide (stAt h.op < stAt k) || ((stAt h.op == stAt k) && !riAt k)) (wrS ns h)
      omega
end Go.Sx
