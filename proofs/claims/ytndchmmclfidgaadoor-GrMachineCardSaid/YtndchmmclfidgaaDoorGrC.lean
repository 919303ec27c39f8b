import Derived.Test.YtndchmmclfidgaaDoorLtlB
import Derived.Test.YtndchmmclfidgaaDoorLgX
set_option maxRecDepth 100000
set_option linter.unusedSimpArgs false
set_option linter.unusedVariables false
set_option linter.unnecessarySimpa false
namespace Go.Sx
open Go Go.Lg Go.Proofs
theorem b146 {gl : GL} : Body (C gl).P 146 Tryd.f146 (codeOf Tryd.f146) := ⟨Tryd.func146, by kernel_rfl, by kernel_rfl⟩
theorem b91 {gl : GL} : Body (C gl).P 91 Tryd.f91 (codeOf Tryd.f91) := ⟨Tryd.func91, by kernel_rfl, by kernel_rfl⟩
theorem b89 {gl : GL} : Body (C gl).P 89 Tryd.f89 (codeOf Tryd.f89) := ⟨Tryd.func89, by kernel_rfl, by kernel_rfl⟩
theorem b145 {gl : GL} : Body (C gl).P 145 Tryd.f145 (codeOf Tryd.f145) := ⟨Tryd.func145, by kernel_rfl, by kernel_rfl⟩
section
variable {gl : GL}
theorem indexF_ok {p : Fm → Bool} {g : FuncId} {caps : List AV} {J : Sto → Prop} (hJ : Stays J) (xs : List Fm) (hlen : xs.length < 9223372036854775807) (hx : ∀ x ∈ xs, FnK (C gl) g caps J [encF x] (.bool (p x))) :
    FnK (C gl) 146 [] J [.list false (encFs xs), .fn g caps] (.int .i64 (idxF p xs 0)) := by
  refine ⟨⟨_, _, b146⟩, fun σ hj => ?_⟩
  suffices h : ∃ r σ', CallS (C gl) 146 [.list false (encFs xs), .fn g caps] σ r σ' ∧ (r = .int .i64 (idxF p xs 0) ∧ Kept 0 σ σ') by
    obtain ⟨r, σ', h1, rfl, h2⟩ := h; exact ⟨σ', h1, h2⟩
  refine call_of (R := fun r σ' => r = .int .i64 (idxF p xs 0) ∧ Kept 0 σ σ') b146 (by simp [Tryd.ntmps146]) ?_
  refine W.of ?_
  rw [Tryd.ntmps146]
  simp only [toK, codeOf, Tryd.f146, go_sem, seval, reduceCtorEq]
  refine WK.seq (WK.reg ?_)
  simp only [go_sem, seval, reduceCtorEq]
  refine WK.seq (WK.seq (WK.reg ?_))
  simp only [go_sem, seval, reduceCtorEq, encFs_len]
  refine WK.range xs.length hlen (fun i env τ => env 0 = .list false (encFs xs) ∧ env 1 = .fn g caps ∧ (∀ x ∈ xs.take i, p x = false) ∧ Kept 0 σ τ)
    (by decide) (by simp [go_sem]) (by simp [go_sem]) ⟨by simp [go_sem], by simp [go_sem], by simp, .refl 0 σ⟩ (by rintro i env σ v t (rfl | rfl | rfl) h <;> simpa [upd] using h) ?step ?done
  case step =>
    rintro i env τ hi ⟨h0, h1, hp, hk⟩ hi1 hi2
    refine WK.seq (WK.reg ?_)
    simp only [go_sem, seval, reduceCtorEq, hi1]
    refine WK.seq (WK.reg ?_)
    simp only [go_sem, seval, reduceCtorEq, h0, h1, encFs_len, encFs_get xs i hi]
    obtain ⟨o', v', l', hg⟩ : ∃ o' v' l', xs[i] = Fm.mk o' v' l' := by cases xs[i]; exact ⟨_, _, _, rfl⟩
    simp only [go_sem, seval, reduceCtorEq, hg, encF]
    refine ⟨by omega, ?_⟩
    have hxi := hx xs[i] (List.getElem_mem hi)
    refine callK_fnK hxi (hJ _ _ hj hk) rfl (by simp only [go_sem, seval, reduceCtorEq, h1]) (by simp only [go_sem, seval, reduceCtorEq, hg, encF]) fun τ' hk' => ?_
    simp only [go_sem, seval, reduceCtorEq]
    cases hpx : p xs[i] with
    | true =>
      refine WK.cond true (by simp only [go_sem, seval, reduceCtorEq]) (fun _ => ?_) (fun h => by cases h)
      refine WK.seq (WK.reg ?_)
      simp only [go_sem, seval, reduceCtorEq, hi1]
      refine WK.ret ?_
      simp only [go_sem, seval, reduceCtorEq]
      refine ⟨?_, hk.trans hk'⟩
      rw [idxF_drop p xs 0 i hp, List.drop_eq_getElem_cons hi]
      simp [idxF, hpx]
    | false =>
      refine WK.cond false (by simp only [go_sem, seval, reduceCtorEq]) (fun h => by cases h) (fun _ => ?_)
      refine WK.skip ?_
      simp only [go_sem, seval, reduceCtorEq, hi1, hi2, h0, h1]
      refine ⟨fun x hx => ?_, hk.trans hk'⟩
      rw [← List.take_append_getElem hi, List.mem_append, List.mem_singleton] at hx
      rcases hx with hx | rfl
      · exact hp x hx
      · exact hpx
  case done =>
    rintro env τ ⟨h0, h1, hp, hk⟩ _ _
    simp only [go_sem, seval, reduceCtorEq]
    refine WK.seq (WK.reg ?_)
    simp only [go_sem, seval, reduceCtorEq]
    refine WK.ret ?_
    simp only [go_sem, seval, reduceCtorEq]
    refine ⟨?_, hk⟩
    rw [idxF_drop p xs 0 xs.length hp]
    simp [idxF]
theorem containsF_ok {p : Fm → Bool} {g : FuncId} {caps : List AV} {J : Sto → Prop} (hJ : Stays J) (xs : List Fm) (hlen : xs.length < 9223372036854775807) (hx : ∀ x ∈ xs, FnK (C gl) g caps J [encF x] (.bool (p x))) :
    FnK (C gl) 91 [] J [.list false (encFs xs), .fn g caps] (.bool (xs.any p)) := by
  refine ⟨⟨_, _, b91⟩, fun σ hj => ?_⟩
  suffices h : ∃ r σ', CallS (C gl) 91 [.list false (encFs xs), .fn g caps] σ r σ' ∧ (r = .bool (xs.any p) ∧ Kept 0 σ σ') by
    obtain ⟨r, σ', h1, rfl, h2⟩ := h; exact ⟨σ', h1, h2⟩
  refine call_of (R := fun r σ' => r = .bool (xs.any p) ∧ Kept 0 σ σ') b91 (by simp [Tryd.ntmps91]) ?_
  refine W.of ?_
  rw [Tryd.ntmps91]
  simp only [toK, codeOf, Tryd.f91, go_sem, seval, reduceCtorEq]
  refine WK.seq (WK.reg ?_)
  simp only [go_sem, seval, reduceCtorEq]
  refine WK.seq (WK.reg ?_)
  simp only [go_sem, seval, reduceCtorEq]
  refine callK_fnK (indexF_ok hJ xs hlen hx) hj rfl (by simp only [go_sem, seval, reduceCtorEq]) (by simp only [go_sem, seval, reduceCtorEq]) fun τ hk => ?_
  simp only [go_sem, seval, reduceCtorEq, idxF_any]
  refine WK.ret ?_
  simp only [go_sem, seval, reduceCtorEq]
  exact hk
end
mutual
def plainF (nx : Int) : Fm → Bool
  | .mk o v l => if o = 8 then (match l with | [.mk o2 v2 l2] => decide (o2 = 2) && decide (v2 < nx) | _ => false) else decide (o < 8) && !plainN nx l
def plainN (nx : Int) : List Fm → Bool
  | [] => false
  | f :: l => !plainF nx f || plainN nx l
end
theorem plainN_any (nx : Int) : ∀ l : List Fm, plainN nx l = l.any fun f => !plainF nx f
  | [] => rfl
  | f :: l => by simp [plainN, plainN_any nx l]
section
variable {gl : GL}
theorem plain1_ok (nx : Int) (nb : Nat) (g : Fm) (h : PCall (C gl) 89 [encF g, .int .i64 nx] (.bool (plainF nx g))) :
    FnK (C gl) 145 [.ptr nb 0] (fun σ => σ.get nb = some (.box [.int .i64 nx]) ∧ nb < σ.next) [encF g] (.bool (!plainF nx g)) := by
  refine ⟨⟨_, _, b145⟩, fun σ hj => ?_⟩
  suffices h : ∃ r σ', CallS (C gl) 145 [encF g, .ptr nb 0] σ r σ' ∧ (r = .bool (!plainF nx g) ∧ Kept 0 σ σ') by
    obtain ⟨r, σ', h1, rfl, h2⟩ := h; exact ⟨σ', h1, h2⟩
  refine call_of (R := fun r σ' => r = .bool (!plainF nx g) ∧ Kept 0 σ σ') b145 (by simp [Tryd.ntmps145]) ?_
  obtain ⟨o, v, l⟩ := g
  obtain ⟨hj1, hj2⟩ := hj
  have hne : (nb = σ.next) = False := by simp; omega
  refine W.of ?_
  rw [Tryd.ntmps145]
  simp only [toK, codeOf, Tryd.f145, go_sem, seval, reduceCtorEq]
  refine WK.seq (WK.reg ?_)
  simp only [go_sem, seval, reduceCtorEq, encF]
  refine WK.seq (WK.reg ?_)
  simp only [go_sem, seval, reduceCtorEq, hne, hj1]
  refine callK_pure h rfl (by simp only [go_sem, seval, reduceCtorEq]) (by simp only [go_sem, seval, reduceCtorEq, encF]) ?_
  simp only [go_sem, seval, reduceCtorEq]
  refine WK.ret ?_
  simp only [go_sem, seval, reduceCtorEq]
  exact Kept.add 0 σ _
theorem plain_ok (nx : Int) (f : Fm) : Shrt f → PCall (C gl) 89 [encF f, .int .i64 nx] (.bool (plainF nx f)) := by
  induction f using Fm.ind with
  | h o v l ih =>
  intro hs
  simp only [Shrt] at hs
  refine pcall_of b89 (by simp [Tryd.ntmps89]) (by simp; exact ⟨closedF _, .int _ _⟩) (.bool _) ?_
  refine W.of ?_
  rw [Tryd.ntmps89]
  simp only [toK, codeOf, Tryd.f89, go_sem, seval, reduceCtorEq]
  refine WK.seq (WK.reg ?_)
  simp only [go_sem, seval, reduceCtorEq, encF]
  refine WK.seq (WK.seq (WK.reg ?_))
  simp only [go_sem, seval, reduceCtorEq]
  by_cases ho : o = 8
  · have hb : (o == 8) = true := by simp [ho]
    refine WK.cond true (by simp only [go_sem, seval, reduceCtorEq, hb]) (fun _ => ?_) (fun h => by cases h)
    refine WK.seq ?_
    refine WK.draw0 mixed (by kernel_rfl) ?_
    simp only [go_sem, seval, reduceCtorEq, encFs_len]
    match l with
    | [] =>
      simp only [go_sem, seval, reduceCtorEq]
      refine WK.ret ?_
      simp only [go_sem, seval, reduceCtorEq, plainF, ho]
    | [.mk o2 v2 l2] =>
      simp only [go_sem, seval, reduceCtorEq, encFs, encF]
      by_cases h2 : o2 = 2
      · have h3 : (o2 == 2) = true := by simp [h2]
        simp only [go_sem, seval, reduceCtorEq, h3]
        refine WK.ret ?_
        simp only [go_sem, seval, reduceCtorEq, plainF, ho, h2, decide_true]
      · have h3 : (o2 == 2) = false := by simp [h2]
        simp only [go_sem, seval, reduceCtorEq, h3]
        refine WK.ret ?_
        simp only [go_sem, seval, reduceCtorEq, plainF, ho, h2, decide_false, Bool.false_and]
    | _ :: _ :: r =>
      have h1 : (((r.length + 1 + 1 : Nat) : Int) == 1) = false := by simp; omega
      simp only [go_sem, seval, reduceCtorEq, h1]
      refine WK.ret ?_
      simp only [go_sem, seval, reduceCtorEq, plainF, ho]
  · have hb : (o == 8) = false := by simp [ho]
    refine WK.cond false (by simp only [go_sem, seval, reduceCtorEq, hb]) (fun h => by cases h) (fun _ => ?_)
    refine WK.skip ?_
    simp only [go_sem, seval, reduceCtorEq]
    refine WK.seq (WK.reg ?_)
    by_cases ho8 : o < 8
    · simp only [go_sem, seval, reduceCtorEq, ho8, decide_true]
      refine callK_fnK (containsF_ok (J := fun σ => σ.get 1 = some (.box [.int .i64 nx]) ∧ 1 < σ.next) (p := fun f => !plainF nx f) (fun σ σ' h k => ⟨(k.get 1 (by omega) h.2).trans h.1, Nat.lt_of_lt_of_le h.2 k.next⟩) l hs.1
        fun x hx => plain1_ok nx 1 x (ih x hx (hs.2.mem x hx))) ⟨by simp [go_sem], by simp [go_sem]⟩ rfl (by simp only [go_sem, seval, reduceCtorEq]) (by simp only [go_sem, seval, reduceCtorEq]) fun τ hk => ?_
      simp only [go_sem, seval, reduceCtorEq]
      refine WK.ret ?_
      simp only [go_sem, seval, reduceCtorEq, plainF, ho, ho8, decide_true, plainN_any]
    · simp only [go_sem, seval, reduceCtorEq, ho8, decide_false]
      refine WK.ret ?_
      simp only [go_sem, seval, reduceCtorEq, plainF, ho, ho8, decide_false, Bool.false_and]
end
theorem b33 {gl : GL} : Body (C gl).P 33 Tryd.f33 (codeOf Tryd.f33) := ⟨Tryd.func33, by kernel_rfl, by kernel_rfl⟩
theorem b88 {gl : GL} : Body (C gl).P 88 Tryd.f88 (codeOf Tryd.f88) := ⟨Tryd.func88, by kernel_rfl, by kernel_rfl⟩
theorem b90 {gl : GL} : Body (C gl).P 90 Tryd.f90 (codeOf Tryd.f90) := ⟨Tryd.func90, by kernel_rfl, by kernel_rfl⟩
def goodF (f : Fm) (n nx : Int) : Bool := validF f n && plainF nx f
def validC (c : Ct) : Bool :=
  decide (0 ≤ c.inn) && decide (c.inn ≤ 3) && decide (0 ≤ c.out) && decide (c.out ≤ 3) && decide (c.je.length + c.js.length ≤ 12) &&
  goodF c.ie c.inn 0 && goodF c.is (c.inn + c.out) 0 && goodF c.se (c.inn + c.out) c.inn && goodF c.ss (c.inn + c.out) (c.inn + c.out) &&
  (c.je.all fun f => goodF f (c.inn + c.out) 0) && (c.js.all fun f => goodF f (c.inn + c.out) 0)
section
variable {gl : GL} (har : gl.at' 0 = arityA)
include har
theorem gvalid1_ok (f : Fm) (hs : Shrt f) (n nx : Int) : PCall (C gl) 88 [encF f, .int .i64 n, .int .i64 nx] (.bool (goodF f n nx)) := by
  refine pcall_of b88 (by simp [Tryd.ntmps88]) (by simp; exact ⟨closedF _, .int _ _, .int _ _⟩) (.bool _) ?_
  refine W.of ?_
  rw [Tryd.ntmps88]
  simp only [toK, codeOf, Tryd.f88, go_sem, seval, reduceCtorEq]
  refine WK.seq (WK.reg ?_)
  simp only [go_sem, seval, reduceCtorEq, encF_eq]
  refine WK.seq (WK.reg ?_)
  simp only [go_sem, seval, reduceCtorEq]
  refine callK_pure (valid_ok har f hs n) rfl (by simp only [go_sem, seval, reduceCtorEq]) (by simp only [go_sem, seval, reduceCtorEq, encF_eq]) ?_
  simp only [go_sem, seval, reduceCtorEq]
  cases hv : validF f n with
  | true =>
    simp only [go_sem, seval, reduceCtorEq]
    refine callK_pure (plain_ok nx f hs) rfl (by simp only [go_sem, seval, reduceCtorEq]) (by simp only [go_sem, seval, reduceCtorEq, encF_eq]) ?_
    simp only [go_sem, seval, reduceCtorEq]
    refine WK.ret ?_
    simp only [go_sem, seval, reduceCtorEq, goodF, hv]
  | false =>
    simp only [go_sem, seval, reduceCtorEq]
    refine WK.ret ?_
    simp only [go_sem, seval, reduceCtorEq, goodF, hv, Bool.false_and]
theorem gvalid2_ok (f : Fm) (hs : Shrt f) (n : Int) (gb nb : Nat) :
    FnK (C gl) 90 [.ptr gb 0, .ptr nb 0] (fun σ => σ.get gb = some (.box [.fn 88 []]) ∧ gb < σ.next ∧ σ.get nb = some (.box [.int .i64 n]) ∧ nb < σ.next) [encF f] (.bool (!goodF f n 0)) := by
  refine ⟨⟨_, _, b90⟩, fun σ hj => ?_⟩
  suffices h : ∃ r σ', CallS (C gl) 90 [encF f, .ptr gb 0, .ptr nb 0] σ r σ' ∧ (r = .bool (!goodF f n 0) ∧ Kept 0 σ σ') by
    obtain ⟨r, σ', h1, rfl, h2⟩ := h; exact ⟨σ', h1, h2⟩
  refine call_of (R := fun r σ' => r = .bool (!goodF f n 0) ∧ Kept 0 σ σ') b90 (by simp [Tryd.ntmps90]) ?_
  obtain ⟨j1, j2, j3, j4⟩ := hj
  have e1 : (gb = σ.next) = False := by simp; omega
  have e2 : (nb = σ.next) = False := by simp; omega
  refine W.of ?_
  rw [Tryd.ntmps90]
  simp only [toK, codeOf, Tryd.f90, go_sem, seval, reduceCtorEq]
  refine WK.seq (WK.reg ?_)
  simp only [go_sem, seval, reduceCtorEq, encF_eq]
  refine WK.seq (WK.reg ?_)
  simp only [go_sem, seval, reduceCtorEq, e1, e2, j1, j3]
  refine callK_pure (gvalid1_ok har f hs n 0) rfl (by simp only [go_sem, seval, reduceCtorEq]) (by simp only [go_sem, seval, reduceCtorEq, encF_eq]) ?_
  simp only [go_sem, seval, reduceCtorEq]
  refine WK.ret ?_
  simp only [go_sem, seval, reduceCtorEq]
  exact Kept.add 0 σ _
theorem gvalid_ok (c : Ct) (hs : ShrtC c) : PCall (C gl) 33 [encC c] (.bool (validC c)) := by
  refine pcall_of b33 (by simp [Tryd.ntmps33]) (by simp; exact closedC c) (.bool _) ?_
  refine W.of ?_
  rw [Tryd.ntmps33]
  simp only [toK, codeOf, Tryd.f33, go_sem, seval, reduceCtorEq]
  refine WK.seq (WK.reg ?_)
  simp only [go_sem, seval, reduceCtorEq, encC]
  refine WK.seq (WK.seq (WK.reg ?_))
  by_cases h1 : c.inn < 0
  · simp only [go_sem, seval, reduceCtorEq, h1, decide_true]
    refine WK.cond true (by simp only [go_sem, seval, reduceCtorEq]) (fun _ => ?_) (fun h => by cases h)
    refine WK.seq (WK.reg ?_)
    simp only [go_sem, seval, reduceCtorEq]
    refine WK.ret ?_
    simp only [go_sem, seval, reduceCtorEq]
    have : validC c = false := by
      refine Bool.eq_false_iff.2 fun h => ?_
      simp only [validC, Bool.and_eq_true, decide_eq_true_eq] at h
      omega
    rw [this]
  by_cases h2 : c.inn > 3
  · simp only [go_sem, seval, reduceCtorEq, h1, h2, decide_true, decide_false]
    refine WK.cond true (by simp only [go_sem, seval, reduceCtorEq]) (fun _ => ?_) (fun h => by cases h)
    refine WK.seq (WK.reg ?_)
    simp only [go_sem, seval, reduceCtorEq]
    refine WK.ret ?_
    simp only [go_sem, seval, reduceCtorEq]
    have : validC c = false := by
      refine Bool.eq_false_iff.2 fun h => ?_
      simp only [validC, Bool.and_eq_true, decide_eq_true_eq] at h
      omega
    rw [this]
  by_cases h3 : c.out < 0
  · simp only [go_sem, seval, reduceCtorEq, h1, h2, h3, decide_true, decide_false]
    refine WK.cond true (by simp only [go_sem, seval, reduceCtorEq]) (fun _ => ?_) (fun h => by cases h)
    refine WK.seq (WK.reg ?_)
    simp only [go_sem, seval, reduceCtorEq]
    refine WK.ret ?_
    simp only [go_sem, seval, reduceCtorEq]
    have : validC c = false := by
      refine Bool.eq_false_iff.2 fun h => ?_
      simp only [validC, Bool.and_eq_true, decide_eq_true_eq] at h
      omega
    rw [this]
  by_cases h4 : c.out > 3
  · simp only [go_sem, seval, reduceCtorEq, h1, h2, h3, h4, decide_true, decide_false]
    refine WK.cond true (by simp only [go_sem, seval, reduceCtorEq]) (fun _ => ?_) (fun h => by cases h)
    refine WK.seq (WK.reg ?_)
    simp only [go_sem, seval, reduceCtorEq]
    refine WK.ret ?_
    simp only [go_sem, seval, reduceCtorEq]
    have : validC c = false := by
      refine Bool.eq_false_iff.2 fun h => ?_
      simp only [validC, Bool.and_eq_true, decide_eq_true_eq] at h
      omega
    rw [this]
  have hw : IntKind.i64.wrap ((c.je.length : Int) + (c.js.length : Int)) = ((c.je.length + c.js.length : Nat) : Int) := by have := hs.jel; have := hs.jsl; rw [wrap_lt (by omega) (by omega)]; rfl
  by_cases h5 : c.je.length + c.js.length > 12
  · have h5' : (((c.je.length + c.js.length : Nat) : Int) > 12) = True := by simp; omega
    simp only [go_sem, seval, reduceCtorEq, h1, h2, h3, h4, encFs_len, hw, h5', decide_true, decide_false]
    refine WK.cond true (by simp only [go_sem, seval, reduceCtorEq]) (fun _ => ?_) (fun h => by cases h)
    refine WK.seq (WK.reg ?_)
    simp only [go_sem, seval, reduceCtorEq]
    refine WK.ret ?_
    simp only [go_sem, seval, reduceCtorEq]
    have : validC c = false := by
      refine Bool.eq_false_iff.2 fun h => ?_
      simp only [validC, Bool.and_eq_true, decide_eq_true_eq] at h
      omega
    rw [this]
  have h5' : (((c.je.length + c.js.length : Nat) : Int) > 12) = False := by simp; omega
  simp only [go_sem, seval, reduceCtorEq, h1, h2, h3, h4, encFs_len, hw, h5', decide_true, decide_false]
  refine WK.cond false (by simp only [go_sem, seval, reduceCtorEq]) (fun h => by cases h) (fun _ => ?_)
  refine WK.skip ?_
  simp only [go_sem, seval, reduceCtorEq]
  have hw2 : IntKind.i64.wrap (c.inn + c.out) = c.inn + c.out := wrap_lt (by omega) (by omega)
  refine WK.seq (WK.reg ?_)
  simp only [go_sem, seval, reduceCtorEq, hw2]
  refine WK.seq (WK.reg ?_)
  simp only [go_sem, seval, reduceCtorEq]
  refine WK.seq (WK.reg ?_)
  simp only [go_sem, seval, reduceCtorEq]
  have hrest : validC c = (goodF c.ie c.inn 0 && (goodF c.is (c.inn + c.out) 0 && (goodF c.se (c.inn + c.out) c.inn && (goodF c.ss (c.inn + c.out) (c.inn + c.out) && ((c.je.all fun f => goodF f (c.inn + c.out) 0) && (c.js.all fun f => goodF f (c.inn + c.out) 0)))))) := by
    have a1 : decide (0 ≤ c.inn) = true := by simp; omega
    have a2 : decide (c.inn ≤ 3) = true := by simp; omega
    have a3 : decide (0 ≤ c.out) = true := by simp; omega
    have a4 : decide (c.out ≤ 3) = true := by simp; omega
    have a5 : decide (c.je.length + c.js.length ≤ 12) = true := by simp; omega
    simp only [validC, a1, a2, a3, a4, a5, Bool.true_and, Bool.and_assoc]
  rw [hrest]
  refine WK.seq (WK.reg ?_)
  simp only [go_sem, seval, reduceCtorEq]
  have key : ∀ (l : List Fm), l.length < 9223372036854775807 → ShrtL l → FnK (C gl) 91 [] (fun σ => σ.get 2 = some (.box [.fn 88 []]) ∧ 2 < σ.next ∧ σ.get 1 = some (.box [.int .i64 (c.inn + c.out)]) ∧ 1 < σ.next) [.list false (encFs l), .fn 90 [.ptr 2 0, .ptr 1 0]] (.bool (!l.all fun f => goodF f (c.inn + c.out) 0)) := fun l hl hsl => by
    have := containsF_ok (gl := gl) (p := fun f => !goodF f (c.inn + c.out) 0) (J := fun σ => σ.get 2 = some (.box [.fn 88 []]) ∧ 2 < σ.next ∧ σ.get 1 = some (.box [.int .i64 (c.inn + c.out)]) ∧ 1 < σ.next)
      (fun σ σ' h k => ⟨(k.get 2 (by omega) h.2.1).trans h.1, Nat.lt_of_lt_of_le h.2.1 k.next, (k.get 1 (by omega) h.2.2.2).trans h.2.2.1, Nat.lt_of_lt_of_le h.2.2.2 k.next⟩) l hl fun x hx => gvalid2_ok har x (hsl.mem x hx) (c.inn + c.out) 2 1
    rw [← List.not_all_eq_any_not] at this
    exact this
  refine callK_pure (gvalid1_ok har c.ie hs.ie c.inn 0) rfl (by simp only [go_sem, seval, reduceCtorEq]) (by simp only [go_sem, seval, reduceCtorEq, encF_eq]) ?_
  simp only [go_sem, seval, reduceCtorEq]
  cases g1 : goodF c.ie c.inn 0 with
  | false =>
    simp only [go_sem, seval, reduceCtorEq]
    refine WK.ret ?_
    simp only [go_sem, seval, reduceCtorEq, Bool.false_and]
  | true =>
  simp only [go_sem, seval, reduceCtorEq]
  refine callK_pure (gvalid1_ok har c.is hs.is (c.inn + c.out) 0) rfl (by simp only [go_sem, seval, reduceCtorEq]) (by simp only [go_sem, seval, reduceCtorEq, encF_eq]) ?_
  simp only [go_sem, seval, reduceCtorEq]
  cases g1 : goodF c.is (c.inn + c.out) 0 with
  | false =>
    simp only [go_sem, seval, reduceCtorEq]
    refine WK.ret ?_
    simp only [go_sem, seval, reduceCtorEq, Bool.false_and]
  | true =>
  simp only [go_sem, seval, reduceCtorEq]
  refine callK_pure (gvalid1_ok har c.se hs.se (c.inn + c.out) c.inn) rfl (by simp only [go_sem, seval, reduceCtorEq]) (by simp only [go_sem, seval, reduceCtorEq, encF_eq]) ?_
  simp only [go_sem, seval, reduceCtorEq]
  cases g1 : goodF c.se (c.inn + c.out) c.inn with
  | false =>
    simp only [go_sem, seval, reduceCtorEq]
    refine WK.ret ?_
    simp only [go_sem, seval, reduceCtorEq, Bool.false_and]
  | true =>
  simp only [go_sem, seval, reduceCtorEq]
  refine callK_pure (gvalid1_ok har c.ss hs.ss (c.inn + c.out) (c.inn + c.out)) rfl (by simp only [go_sem, seval, reduceCtorEq]) (by simp only [go_sem, seval, reduceCtorEq, encF_eq]) ?_
  simp only [go_sem, seval, reduceCtorEq]
  cases g1 : goodF c.ss (c.inn + c.out) (c.inn + c.out) with
  | false =>
    simp only [go_sem, seval, reduceCtorEq]
    refine WK.ret ?_
    simp only [go_sem, seval, reduceCtorEq, Bool.false_and]
  | true =>
  simp only [go_sem, seval, reduceCtorEq]
  refine callK_fnK (key c.je (by have := hs.jel; omega) hs.je) ⟨?_, ?_, ?_, ?_⟩ rfl (by simp only [go_sem, seval, reduceCtorEq]) (by simp only [go_sem, seval, reduceCtorEq]) fun τ hk => ?_
  · simp only [go_sem, seval, reduceCtorEq]
  · simp only [go_sem, seval, reduceCtorEq]
  · simp only [go_sem, seval, reduceCtorEq]
  · simp only [go_sem, seval, reduceCtorEq]
  simp only [go_sem, seval, reduceCtorEq]
  cases g1 : (c.je.all fun f => goodF f (c.inn + c.out) 0) with
  | false =>
    simp only [go_sem, seval, reduceCtorEq]
    refine WK.ret ?_
    simp only [go_sem, seval, reduceCtorEq, Bool.false_and]
  | true =>
  have k0 := hk.get 0 (Nat.zero_le _) (by simp only [go_sem, seval, reduceCtorEq])
  have k1 := hk.get 1 (Nat.zero_le _) (by simp only [go_sem, seval, reduceCtorEq])
  have k2 := hk.get 2 (Nat.zero_le _) (by simp only [go_sem, seval, reduceCtorEq])
  have kn := hk.next
  simp only [go_sem, seval, reduceCtorEq] at k0 k1 k2 kn
  simp only [go_sem, seval, reduceCtorEq, k0]
  refine callK_fnK (key c.js (by have := hs.jsl; omega) hs.js) ⟨k2, by omega, k1, by omega⟩ rfl (by simp only [go_sem, seval, reduceCtorEq]) (by simp only [go_sem, seval, reduceCtorEq]) fun τ2 hk2 => ?_
  simp only [go_sem, seval, reduceCtorEq]
  refine WK.ret ?_
  simp only [go_sem, seval, reduceCtorEq]
end
theorem b87 {gl : GL} : Body (C gl).P 87 Tryd.f87 (codeOf Tryd.f87) := ⟨Tryd.func87, by kernel_rfl, by kernel_rfl⟩
def bitI (l v : Int) : Bool := andI .i64 (shrI .i64 l v) 1 == 1
mutual
def holdsF (l k : Int) : Fm → Bool
  | .mk o v ar =>
    if o = 0 then true else if o = 2 then bitI l v else if o = 3 then !(holdsL l k ar).getD 0 false else if o = 4 then (holdsL l k ar).getD 0 false && (holdsL l k ar).getD 1 false
    else if o = 5 then (holdsL l k ar).getD 0 false || (holdsL l k ar).getD 1 false else if o = 6 then !(holdsL l k ar).getD 0 false || (holdsL l k ar).getD 1 false
    else if o = 7 then (holdsL l k ar).getD 0 false == (holdsL l k ar).getD 1 false else if o = 8 then bitI k ((ar.map Fm.var).getD 0 0) else false
def holdsL (l k : Int) : List Fm → List Bool
  | [] => []
  | f :: r => holdsF l k f :: holdsL l k r
end
mutual
def WfH : Fm → Prop
  | .mk o v ar => ((o = 2 → 0 ≤ v) ∧ (o = 3 → ar.length = 1) ∧ (4 ≤ o → o ≤ 7 → ar.length = 2) ∧ (o = 8 → ar.length = 1 ∧ 0 ≤ (ar.map Fm.var).getD 0 0)) ∧ WfHL ar
def WfHL : List Fm → Prop
  | [] => True
  | f :: l => WfH f ∧ WfHL l
end
section
variable {gl : GL}
theorem holds_ok (l k : Int) (f : Fm) : WfH f → PCall (C gl) 87 [encF f, .int .i64 l, .int .i64 k] (.bool (holdsF l k f)) := by
  induction f using Fm.ind with
  | h o v ar ih =>
  intro hw
  simp only [WfH] at hw
  refine pcall_of b87 (by simp [Tryd.ntmps87]) (by simp; exact ⟨closedF _, .int _ _, .int _ _⟩) (.bool _) ?_
  refine W.of ?_
  rw [Tryd.ntmps87]
  simp only [toK, codeOf, Tryd.f87, go_sem, seval, reduceCtorEq]
  refine WK.seq (WK.reg ?_)
  simp only [go_sem, seval, reduceCtorEq, encF]
  refine WK.seq (WK.seq (WK.reg ?_))
  simp only [go_sem, seval, reduceCtorEq]
  refine WK.block (WK.seq (WK.reg ?_))
  by_cases h0 : o = 0
  · subst h0
    simp only [go_sem, seval, reduceCtorEq]
    refine WK.cond true (by simp only [go_sem, seval, reduceCtorEq]) (fun _ => ?_) (fun h => by cases h)
    refine WK.seq (WK.reg ?_)
    simp only [go_sem, seval, reduceCtorEq]
    refine WK.ret ?_
    simp only [go_sem, seval, reduceCtorEq, holdsF]
  have b0 : (o == 0) = false := by simp [h0]
  simp only [go_sem, seval, reduceCtorEq, b0]
  refine WK.cond false (by simp only [go_sem, seval, reduceCtorEq]) (fun h => by cases h) (fun _ => ?_)
  refine WK.seq (WK.reg ?_)
  by_cases h2 : o = 2
  · subst h2
    simp only [go_sem, seval, reduceCtorEq]
    refine WK.cond true (by simp only [go_sem, seval, reduceCtorEq]) (fun _ => ?_) (fun h => by cases h)
    refine WK.seq (WK.reg ?_)
    simp only [go_sem, seval, reduceCtorEq]
    refine ⟨hw.1.1 rfl, ?_⟩
    refine WK.ret ?_
    simp only [go_sem, seval, reduceCtorEq, holdsF, bitI]
  have b2 : (o == 2) = false := by simp [h2]
  simp only [go_sem, seval, reduceCtorEq, b2]
  refine WK.cond false (by simp only [go_sem, seval, reduceCtorEq]) (fun h => by cases h) (fun _ => ?_)
  refine WK.seq (WK.reg ?_)
  by_cases h3 : o = 3
  · subst h3
    obtain ⟨l0, rfl⟩ : ∃ l0, ar = [l0] := List.length_eq_one_iff.1 (hw.1.2.1 rfl)
    simp only [WfHL] at hw
    simp only [go_sem, seval, reduceCtorEq]
    refine WK.cond true (by simp only [go_sem, seval, reduceCtorEq]) (fun _ => ?_) (fun h => by cases h)
    refine WK.seq (WK.reg ?_)
    simp only [go_sem, seval, reduceCtorEq, encFs, encF_eq]
    refine callK_pure (ih l0 (by simp) hw.2.1) rfl (by simp only [go_sem, seval, reduceCtorEq]) (by simp only [go_sem, seval, reduceCtorEq, encF_eq]) ?_
    simp only [go_sem, seval, reduceCtorEq]
    refine WK.ret ?_
    simp only [go_sem, seval, reduceCtorEq, holdsF, holdsL]
  have b3 : (o == 3) = false := by simp [h3]
  simp only [go_sem, seval, reduceCtorEq, b3]
  refine WK.cond false (by simp only [go_sem, seval, reduceCtorEq]) (fun h => by cases h) (fun _ => ?_)
  refine WK.seq (WK.reg ?_)
  by_cases h4 : o = 4
  · subst h4
    obtain ⟨l0, l1, rfl⟩ : ∃ l0 l1, ar = [l0, l1] := by
      match ar, hw.1.2.2.1 (by decide) (by decide) with
      | [x, y], _ => exact ⟨x, y, rfl⟩
    simp only [WfHL] at hw
    simp only [go_sem, seval, reduceCtorEq]
    refine WK.cond true (by simp only [go_sem, seval, reduceCtorEq]) (fun _ => ?_) (fun h => by cases h)
    refine WK.seq (WK.reg ?_)
    simp only [go_sem, seval, reduceCtorEq, encFs, encF_eq]
    refine callK_pure (ih l0 (by simp) hw.2.1) rfl (by simp only [go_sem, seval, reduceCtorEq]) (by simp only [go_sem, seval, reduceCtorEq, encF_eq]) ?_
    simp only [go_sem, seval, reduceCtorEq]
    cases g0 : holdsF l k l0 with
    | true =>
      simp only [go_sem, seval, reduceCtorEq, encFs, encF_eq]
      refine callK_pure (ih l1 (by simp) hw.2.2.1) rfl (by simp only [go_sem, seval, reduceCtorEq]) (by simp only [go_sem, seval, reduceCtorEq, encF_eq]) ?_
      simp only [go_sem, seval, reduceCtorEq]
      refine WK.ret ?_
      simp only [go_sem, seval, reduceCtorEq, holdsF, holdsL, g0, Bool.true_and, Bool.false_or]
    | false =>
      simp only [go_sem, seval, reduceCtorEq]
      refine WK.ret ?_
      simp only [go_sem, seval, reduceCtorEq, holdsF, holdsL, g0, Bool.false_and, Bool.true_or]
  have b4 : (o == 4) = false := by simp [h4]
  simp only [go_sem, seval, reduceCtorEq, b4]
  refine WK.cond false (by simp only [go_sem, seval, reduceCtorEq]) (fun h => by cases h) (fun _ => ?_)
  refine WK.seq (WK.reg ?_)
  by_cases h5 : o = 5
  · subst h5
    obtain ⟨l0, l1, rfl⟩ : ∃ l0 l1, ar = [l0, l1] := by
      match ar, hw.1.2.2.1 (by decide) (by decide) with
      | [x, y], _ => exact ⟨x, y, rfl⟩
    simp only [WfHL] at hw
    simp only [go_sem, seval, reduceCtorEq]
    refine WK.cond true (by simp only [go_sem, seval, reduceCtorEq]) (fun _ => ?_) (fun h => by cases h)
    refine WK.seq (WK.reg ?_)
    simp only [go_sem, seval, reduceCtorEq, encFs, encF_eq]
    refine callK_pure (ih l0 (by simp) hw.2.1) rfl (by simp only [go_sem, seval, reduceCtorEq]) (by simp only [go_sem, seval, reduceCtorEq, encF_eq]) ?_
    simp only [go_sem, seval, reduceCtorEq]
    cases g0 : holdsF l k l0 with
    | false =>
      simp only [go_sem, seval, reduceCtorEq, encFs, encF_eq]
      refine callK_pure (ih l1 (by simp) hw.2.2.1) rfl (by simp only [go_sem, seval, reduceCtorEq]) (by simp only [go_sem, seval, reduceCtorEq, encF_eq]) ?_
      simp only [go_sem, seval, reduceCtorEq]
      refine WK.ret ?_
      simp only [go_sem, seval, reduceCtorEq, holdsF, holdsL, g0, Bool.true_and, Bool.false_or]
    | true =>
      simp only [go_sem, seval, reduceCtorEq]
      refine WK.ret ?_
      simp only [go_sem, seval, reduceCtorEq, holdsF, holdsL, g0, Bool.false_and, Bool.true_or]
  have b5 : (o == 5) = false := by simp [h5]
  simp only [go_sem, seval, reduceCtorEq, b5]
  refine WK.cond false (by simp only [go_sem, seval, reduceCtorEq]) (fun h => by cases h) (fun _ => ?_)
  refine WK.seq (WK.reg ?_)
  by_cases h6 : o = 6
  · subst h6
    obtain ⟨l0, l1, rfl⟩ : ∃ l0 l1, ar = [l0, l1] := by
      match ar, hw.1.2.2.1 (by decide) (by decide) with
      | [x, y], _ => exact ⟨x, y, rfl⟩
    simp only [WfHL] at hw
    simp only [go_sem, seval, reduceCtorEq]
    refine WK.cond true (by simp only [go_sem, seval, reduceCtorEq]) (fun _ => ?_) (fun h => by cases h)
    refine WK.seq (WK.reg ?_)
    simp only [go_sem, seval, reduceCtorEq, encFs, encF_eq]
    refine callK_pure (ih l0 (by simp) hw.2.1) rfl (by simp only [go_sem, seval, reduceCtorEq]) (by simp only [go_sem, seval, reduceCtorEq, encF_eq]) ?_
    simp only [go_sem, seval, reduceCtorEq]
    cases g0 : holdsF l k l0 with
    | true =>
      simp only [go_sem, seval, reduceCtorEq, encFs, encF_eq]
      refine callK_pure (ih l1 (by simp) hw.2.2.1) rfl (by simp only [go_sem, seval, reduceCtorEq]) (by simp only [go_sem, seval, reduceCtorEq, encF_eq]) ?_
      simp only [go_sem, seval, reduceCtorEq]
      refine WK.ret ?_
      simp only [go_sem, seval, reduceCtorEq, holdsF, holdsL, g0, Bool.true_and, Bool.false_or]
    | false =>
      simp only [go_sem, seval, reduceCtorEq]
      refine WK.ret ?_
      simp only [go_sem, seval, reduceCtorEq, holdsF, holdsL, g0, Bool.false_and, Bool.true_or]
  have b6 : (o == 6) = false := by simp [h6]
  simp only [go_sem, seval, reduceCtorEq, b6]
  refine WK.cond false (by simp only [go_sem, seval, reduceCtorEq]) (fun h => by cases h) (fun _ => ?_)
  refine WK.seq (WK.reg ?_)
  by_cases h7 : o = 7
  · subst h7
    obtain ⟨l0, l1, rfl⟩ : ∃ l0 l1, ar = [l0, l1] := by
      match ar, hw.1.2.2.1 (by decide) (by decide) with
      | [x, y], _ => exact ⟨x, y, rfl⟩
    simp only [WfHL] at hw
    simp only [go_sem, seval, reduceCtorEq]
    refine WK.cond true (by simp only [go_sem, seval, reduceCtorEq]) (fun _ => ?_) (fun h => by cases h)
    refine WK.seq ?_
    refine WK.draw [⟨false, 0, 0⟩, ⟨false, 0, 0⟩, ⟨false, 0, 0⟩, ⟨false, 0, 0⟩, ⟨false, 0, 0⟩, ⟨false, 0, 0⟩, ⟨true, 0, 0⟩, ⟨false, 0, 0⟩, ⟨false, 1, 0⟩, ⟨false, 1, 0⟩, ⟨false, 1, 0⟩, ⟨false, 0, 0⟩, ⟨false, 0, 0⟩, ⟨true, 0, 0⟩, ⟨false, 0, 0⟩, ⟨false, 0, 0⟩] mixed (by kernel_rfl) ?_
    simp only [go_sem, seval, reduceCtorEq, encFs, encF_eq]
    refine callD_pure (ih l0 (by simp) hw.2.1) rfl (by simp only [go_sem, seval, reduceCtorEq]) (by simp only [go_sem, seval, reduceCtorEq, encF_eq]) ?_
    simp only [go_sem, seval, reduceCtorEq, encFs, encF_eq]
    refine callD_pure (ih l1 (by simp) hw.2.2.1) rfl (by simp only [go_sem, seval, reduceCtorEq]) (by simp only [go_sem, seval, reduceCtorEq, encF_eq]) ?_
    simp only [go_sem, seval, reduceCtorEq]
    refine WK.ret ?_
    simp only [go_sem, seval, reduceCtorEq, holdsF, holdsL]
  have b7 : (o == 7) = false := by simp [h7]
  simp only [go_sem, seval, reduceCtorEq, b7]
  refine WK.cond false (by simp only [go_sem, seval, reduceCtorEq]) (fun h => by cases h) (fun _ => ?_)
  refine WK.seq (WK.reg ?_)
  by_cases h8 : o = 8
  · subst h8
    obtain ⟨hl1, hv⟩ := hw.1.2.2.2 rfl
    obtain ⟨l0, rfl⟩ : ∃ l0, ar = [l0] := List.length_eq_one_iff.1 hl1
    simp only [go_sem, seval, reduceCtorEq]
    refine WK.cond true (by simp only [go_sem, seval, reduceCtorEq]) (fun _ => ?_) (fun h => by cases h)
    refine WK.seq (WK.reg ?_)
    simp only [go_sem, seval, reduceCtorEq, encFs, encF_eq]
    simp only [go_sem, seval, reduceCtorEq] at hv
    refine ⟨hv, ?_⟩
    refine WK.ret ?_
    simp only [go_sem, seval, reduceCtorEq, holdsF, holdsL, bitI]
  have b8 : (o == 8) = false := by simp [h8]
  simp only [go_sem, seval, reduceCtorEq, b8]
  refine WK.cond false (by simp only [go_sem, seval, reduceCtorEq]) (fun h => by cases h) (fun _ => ?_)
  refine WK.skip ?_
  simp only [go_sem, seval, reduceCtorEq]
  refine WK.seq (WK.reg ?_)
  simp only [go_sem, seval, reduceCtorEq]
  refine WK.ret ?_
  simp only [go_sem, seval, reduceCtorEq, holdsF, h0, h2, h3, h4, h5, h6, h7, h8]
end
end Go.Sx
