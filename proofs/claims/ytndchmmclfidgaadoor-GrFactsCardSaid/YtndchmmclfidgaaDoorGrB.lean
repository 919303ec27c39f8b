import Derived.Test.YtndchmmclfidgaaDoorGrA
set_option maxRecDepth 100000
set_option linter.unusedSimpArgs false
set_option linter.unusedVariables false
set_option linter.unnecessarySimpa false
namespace Go.Sx
open Go Go.Lg Go.Proofs
theorem b33 {gl : GL} : Body (C gl).P 33 Tryd.f33 (codeOf Tryd.f33) := ⟨Tryd.func33, by kernel_rfl, by kernel_rfl⟩
theorem b88 {gl : GL} : Body (C gl).P 88 Tryd.f88 (codeOf Tryd.f88) := ⟨Tryd.func88, by kernel_rfl, by kernel_rfl⟩
theorem b90 {gl : GL} : Body (C gl).P 90 Tryd.f90 (codeOf Tryd.f90) := ⟨Tryd.func90, by kernel_rfl, by kernel_rfl⟩

def goodF (f : Fm) (n nx : Int) : Bool := validF f n && plainF nx f
def validC (c : Ct) : Bool :=
  decide (0 ≤ c.inn) && decide (c.inn ≤ 3) && decide (0 ≤ c.out) && decide (c.out ≤ 3) && decide (c.je.length + c.js.length ≤ 12) &&
  goodF c.ie c.inn 0 && goodF c.is (c.inn + c.out) 0 && goodF c.se (c.inn + c.out) c.inn && goodF c.ss (c.inn + c.out) (c.inn + c.out) &&
  (c.je.all fun f => goodF f (c.inn + c.out) 0) && (c.js.all fun f => goodF f (c.inn + c.out) 0)

section
variable {gl : GL} (har : gl.at' 0 = arityA)
include har

theorem gvalid1_ok (f : Fm) (hs : Shrt f) (n nx : Int) : PCall (C gl) 88 [encF f, .int .i64 n, .int .i64 nx] (.bool (goodF f n nx)) := by
  refine pcall_of b88 (by simp [Tryd.ntmps88]) (by simp; exact ⟨closedF _, .int _ _, .int _ _⟩) (.bool _) ?_
  refine W.of ?_
  rw [Tryd.ntmps88]
  simp only [toK, codeOf, Tryd.f88, go_sem, seval, reduceCtorEq]
  refine WK.seq (WK.reg ?_)
  simp only [go_sem, seval, reduceCtorEq, encF_eq]
  refine WK.seq (WK.reg ?_)
  simp only [go_sem, seval, reduceCtorEq]
  refine callK_pure (valid_ok har f hs n) rfl (by simp only [go_sem, seval, reduceCtorEq]) (by simp only [go_sem, seval, reduceCtorEq, encF_eq]) ?_
  simp only [go_sem, seval, reduceCtorEq]
  cases hv : validF f n with
  | true =>
    simp only [go_sem, seval, reduceCtorEq]
    refine callK_pure (plain_ok nx f hs) rfl (by simp only [go_sem, seval, reduceCtorEq]) (by simp only [go_sem, seval, reduceCtorEq, encF_eq]) ?_
    simp only [go_sem, seval, reduceCtorEq]
    refine WK.ret ?_
    simp only [go_sem, seval, reduceCtorEq, goodF, hv]
  | false =>
    simp only [go_sem, seval, reduceCtorEq]
    refine WK.ret ?_
    simp only [go_sem, seval, reduceCtorEq, goodF, hv, Bool.false_and]

theorem gvalid2_ok (f : Fm) (hs : Shrt f) (n : Int) (gb nb : Nat) :
    FnK (C gl) 90 [.ptr gb 0, .ptr nb 0] (fun σ => σ.get gb = some (.box [.fn 88 []]) ∧ gb < σ.next ∧ σ.get nb = some (.box [.int .i64 n]) ∧ nb < σ.next) [encF f] (.bool (!goodF f n 0)) := by
  refine ⟨⟨_, _, b90⟩, fun σ hj => ?_⟩
  suffices h : ∃ r σ', CallS (C gl) 90 [encF f, .ptr gb 0, .ptr nb 0] σ r σ' ∧ (r = .bool (!goodF f n 0) ∧ Kept 0 σ σ') by
    obtain ⟨r, σ', h1, rfl, h2⟩ := h; exact ⟨σ', h1, h2⟩
  refine call_of (R := fun r σ' => r = .bool (!goodF f n 0) ∧ Kept 0 σ σ') b90 (by simp [Tryd.ntmps90]) ?_
  obtain ⟨j1, j2, j3, j4⟩ := hj
  have e1 : (gb = σ.next) = False := by simp; omega
  have e2 : (nb = σ.next) = False := by simp; omega
  refine W.of ?_
  rw [Tryd.ntmps90]
  simp only [toK, codeOf, Tryd.f90, go_sem, seval, reduceCtorEq]
  refine WK.seq (WK.reg ?_)
  simp only [go_sem, seval, reduceCtorEq, encF_eq]
  refine WK.seq (WK.reg ?_)
  simp only [go_sem, seval, reduceCtorEq, e1, e2, j1, j3]
  refine callK_pure (gvalid1_ok har f hs n 0) rfl (by simp only [go_sem, seval, reduceCtorEq]) (by simp only [go_sem, seval, reduceCtorEq, encF_eq]) ?_
  simp only [go_sem, seval, reduceCtorEq]
  refine WK.ret ?_
  simp only [go_sem, seval, reduceCtorEq]
  exact Kept.add 0 σ _

theorem gvalid_ok (c : Ct) (hs : ShrtC c) : PCall (C gl) 33 [encC c] (.bool (validC c)) := by
  refine pcall_of b33 (by simp [Tryd.ntmps33]) (by simp; exact closedC c) (.bool _) ?_
  refine W.of ?_
  rw [Tryd.ntmps33]
  simp only [toK, codeOf, Tryd.f33, go_sem, seval, reduceCtorEq]
  refine WK.seq (WK.reg ?_)
  simp only [go_sem, seval, reduceCtorEq, encC]
  refine WK.seq (WK.seq (WK.reg ?_))
  by_cases h1 : c.inn < 0
  · simp only [go_sem, seval, reduceCtorEq, h1, decide_true]
    refine WK.cond true (by simp only [go_sem, seval, reduceCtorEq]) (fun _ => ?_) (fun h => by cases h)
    refine WK.seq (WK.reg ?_)
    simp only [go_sem, seval, reduceCtorEq]
    refine WK.ret ?_
    simp only [go_sem, seval, reduceCtorEq]
    have : validC c = false := by
      refine Bool.eq_false_iff.2 fun h => ?_
      simp only [validC, Bool.and_eq_true, decide_eq_true_eq] at h
      omega
    rw [this]
  by_cases h2 : c.inn > 3
  · simp only [go_sem, seval, reduceCtorEq, h1, h2, decide_true, decide_false]
    refine WK.cond true (by simp only [go_sem, seval, reduceCtorEq]) (fun _ => ?_) (fun h => by cases h)
    refine WK.seq (WK.reg ?_)
    simp only [go_sem, seval, reduceCtorEq]
    refine WK.ret ?_
    simp only [go_sem, seval, reduceCtorEq]
    have : validC c = false := by
      refine Bool.eq_false_iff.2 fun h => ?_
      simp only [validC, Bool.and_eq_true, decide_eq_true_eq] at h
      omega
    rw [this]
  by_cases h3 : c.out < 0
  · simp only [go_sem, seval, reduceCtorEq, h1, h2, h3, decide_true, decide_false]
    refine WK.cond true (by simp only [go_sem, seval, reduceCtorEq]) (fun _ => ?_) (fun h => by cases h)
    refine WK.seq (WK.reg ?_)
    simp only [go_sem, seval, reduceCtorEq]
    refine WK.ret ?_
    simp only [go_sem, seval, reduceCtorEq]
    have : validC c = false := by
      refine Bool.eq_false_iff.2 fun h => ?_
      simp only [validC, Bool.and_eq_true, decide_eq_true_eq] at h
      omega
    rw [this]
  by_cases h4 : c.out > 3
  · simp only [go_sem, seval, reduceCtorEq, h1, h2, h3, h4, decide_true, decide_false]
    refine WK.cond true (by simp only [go_sem, seval, reduceCtorEq]) (fun _ => ?_) (fun h => by cases h)
    refine WK.seq (WK.reg ?_)
    simp only [go_sem, seval, reduceCtorEq]
    refine WK.ret ?_
    simp only [go_sem, seval, reduceCtorEq]
    have : validC c = false := by
      refine Bool.eq_false_iff.2 fun h => ?_
      simp only [validC, Bool.and_eq_true, decide_eq_true_eq] at h
      omega
    rw [this]
  have hw : IntKind.i64.wrap ((c.je.length : Int) + (c.js.length : Int)) = ((c.je.length + c.js.length : Nat) : Int) := by have := hs.jel; have := hs.jsl; rw [wrap_lt (by omega) (by omega)]; rfl
  by_cases h5 : c.je.length + c.js.length > 12
  · have h5' : (((c.je.length + c.js.length : Nat) : Int) > 12) = True := by simp; omega
    simp only [go_sem, seval, reduceCtorEq, h1, h2, h3, h4, encFs_len, hw, h5', decide_true, decide_false]
    refine WK.cond true (by simp only [go_sem, seval, reduceCtorEq]) (fun _ => ?_) (fun h => by cases h)
    refine WK.seq (WK.reg ?_)
    simp only [go_sem, seval, reduceCtorEq]
    refine WK.ret ?_
    simp only [go_sem, seval, reduceCtorEq]
    have : validC c = false := by
      refine Bool.eq_false_iff.2 fun h => ?_
      simp only [validC, Bool.and_eq_true, decide_eq_true_eq] at h
      omega
    rw [this]
  have h5' : (((c.je.length + c.js.length : Nat) : Int) > 12) = False := by simp; omega
  simp only [go_sem, seval, reduceCtorEq, h1, h2, h3, h4, encFs_len, hw, h5', decide_true, decide_false]
  refine WK.cond false (by simp only [go_sem, seval, reduceCtorEq]) (fun h => by cases h) (fun _ => ?_)
  refine WK.skip ?_
  simp only [go_sem, seval, reduceCtorEq]
  have hw2 : IntKind.i64.wrap (c.inn + c.out) = c.inn + c.out := wrap_lt (by omega) (by omega)
  refine WK.seq (WK.reg ?_)
  simp only [go_sem, seval, reduceCtorEq, hw2]
  refine WK.seq (WK.reg ?_)
  simp only [go_sem, seval, reduceCtorEq]
  refine WK.seq (WK.reg ?_)
  simp only [go_sem, seval, reduceCtorEq]
  have hrest : validC c = (goodF c.ie c.inn 0 && (goodF c.is (c.inn + c.out) 0 && (goodF c.se (c.inn + c.out) c.inn && (goodF c.ss (c.inn + c.out) (c.inn + c.out) && ((c.je.all fun f => goodF f (c.inn + c.out) 0) && (c.js.all fun f => goodF f (c.inn + c.out) 0)))))) := by
    have a1 : decide (0 ≤ c.inn) = true := by simp; omega
    have a2 : decide (c.inn ≤ 3) = true := by simp; omega
    have a3 : decide (0 ≤ c.out) = true := by simp; omega
    have a4 : decide (c.out ≤ 3) = true := by simp; omega
    have a5 : decide (c.je.length + c.js.length ≤ 12) = true := by simp; omega
    simp only [validC, a1, a2, a3, a4, a5, Bool.true_and, Bool.and_assoc]
  rw [hrest]
  refine WK.seq (WK.reg ?_)
  simp only [go_sem, seval, reduceCtorEq]
  have key : ∀ (l : List Fm), l.length < 9223372036854775807 → ShrtL l → FnK (C gl) 91 [] (fun σ => σ.get 2 = some (.box [.fn 88 []]) ∧ 2 < σ.next ∧ σ.get 1 = some (.box [.int .i64 (c.inn + c.out)]) ∧ 1 < σ.next) [.list false (encFs l), .fn 90 [.ptr 2 0, .ptr 1 0]] (.bool (!l.all fun f => goodF f (c.inn + c.out) 0)) := fun l hl hsl => by
    have := containsF_ok (gl := gl) (p := fun f => !goodF f (c.inn + c.out) 0) (J := fun σ => σ.get 2 = some (.box [.fn 88 []]) ∧ 2 < σ.next ∧ σ.get 1 = some (.box [.int .i64 (c.inn + c.out)]) ∧ 1 < σ.next)
      (fun σ σ' h k => ⟨(k.get 2 (by omega) h.2.1).trans h.1, Nat.lt_of_lt_of_le h.2.1 k.next, (k.get 1 (by omega) h.2.2.2).trans h.2.2.1, Nat.lt_of_lt_of_le h.2.2.2 k.next⟩) l hl fun x hx => gvalid2_ok har x (hsl.mem x hx) (c.inn + c.out) 2 1
    rw [← List.not_all_eq_any_not] at this
    exact this
  refine callK_pure (gvalid1_ok har c.ie hs.ie c.inn 0) rfl (by simp only [go_sem, seval, reduceCtorEq]) (by simp only [go_sem, seval, reduceCtorEq, encF_eq]) ?_
  simp only [go_sem, seval, reduceCtorEq]
  cases g1 : goodF c.ie c.inn 0 with
  | false =>
    simp only [go_sem, seval, reduceCtorEq]
    refine WK.ret ?_
    simp only [go_sem, seval, reduceCtorEq, Bool.false_and]
  | true =>
  simp only [go_sem, seval, reduceCtorEq]
  refine callK_pure (gvalid1_ok har c.is hs.is (c.inn + c.out) 0) rfl (by simp only [go_sem, seval, reduceCtorEq]) (by simp only [go_sem, seval, reduceCtorEq, encF_eq]) ?_
  simp only [go_sem, seval, reduceCtorEq]
  cases g1 : goodF c.is (c.inn + c.out) 0 with
  | false =>
    simp only [go_sem, seval, reduceCtorEq]
    refine WK.ret ?_
    simp only [go_sem, seval, reduceCtorEq, Bool.false_and]
  | true =>
  simp only [go_sem, seval, reduceCtorEq]
  refine callK_pure (gvalid1_ok har c.se hs.se (c.inn + c.out) c.inn) rfl (by simp only [go_sem, seval, reduceCtorEq]) (by simp only [go_sem, seval, reduceCtorEq, encF_eq]) ?_
  simp only [go_sem, seval, reduceCtorEq]
  cases g1 : goodF c.se (c.inn + c.out) c.inn with
  | false =>
    simp only [go_sem, seval, reduceCtorEq]
    refine WK.ret ?_
    simp only [go_sem, seval, reduceCtorEq, Bool.false_and]
  | true =>
  simp only [go_sem, seval, reduceCtorEq]
  refine callK_pure (gvalid1_ok har c.ss hs.ss (c.inn + c.out) (c.inn + c.out)) rfl (by simp only [go_sem, seval, reduceCtorEq]) (by simp only [go_sem, seval, reduceCtorEq, encF_eq]) ?_
  simp only [go_sem, seval, reduceCtorEq]
  cases g1 : goodF c.ss (c.inn + c.out) (c.inn + c.out) with
  | false =>
    simp only [go_sem, seval, reduceCtorEq]
    refine WK.ret ?_
    simp only [go_sem, seval, reduceCtorEq, Bool.false_and]
  | true =>
  simp only [go_sem, seval, reduceCtorEq]
  refine callK_fnK (key c.je (by have := hs.jel; omega) hs.je) ⟨?_, ?_, ?_, ?_⟩ rfl (by simp only [go_sem, seval, reduceCtorEq]) (by simp only [go_sem, seval, reduceCtorEq]) fun τ hk => ?_
  · simp only [go_sem, seval, reduceCtorEq]
  · simp only [go_sem, seval, reduceCtorEq]
  · simp only [go_sem, seval, reduceCtorEq]
  · simp only [go_sem, seval, reduceCtorEq]
  simp only [go_sem, seval, reduceCtorEq]
  cases g1 : (c.je.all fun f => goodF f (c.inn + c.out) 0) with
  | false =>
    simp only [go_sem, seval, reduceCtorEq]
    refine WK.ret ?_
    simp only [go_sem, seval, reduceCtorEq, Bool.false_and]
  | true =>
  have k0 := hk.get 0 (Nat.zero_le _) (by simp only [go_sem, seval, reduceCtorEq])
  have k1 := hk.get 1 (Nat.zero_le _) (by simp only [go_sem, seval, reduceCtorEq])
  have k2 := hk.get 2 (Nat.zero_le _) (by simp only [go_sem, seval, reduceCtorEq])
  have kn := hk.next
  simp only [go_sem, seval, reduceCtorEq] at k0 k1 k2 kn
  simp only [go_sem, seval, reduceCtorEq, k0]
  refine callK_fnK (key c.js (by have := hs.jsl; omega) hs.js) ⟨k2, by omega, k1, by omega⟩ rfl (by simp only [go_sem, seval, reduceCtorEq]) (by simp only [go_sem, seval, reduceCtorEq]) fun τ2 hk2 => ?_
  simp only [go_sem, seval, reduceCtorEq]
  refine WK.ret ?_
  simp only [go_sem, seval, reduceCtorEq]
end
end Go.Sx
