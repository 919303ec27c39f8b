import Derived.Test.YtndchmmclfidgaaDoorLtlB
import Derived.Test.YtndchmmclfidgaaDoorLgN
set_option maxRecDepth 100000
set_option linter.unusedSimpArgs false
set_option linter.unusedVariables false
set_option linter.unnecessarySimpa false
namespace Go.Sx
open Go Go.Lg Go.Proofs
theorem b146 {gl : GL} : Body (C gl).P 146 Tryd.f146 (codeOf Tryd.f146) := ⟨Tryd.func146, by kernel_rfl, by kernel_rfl⟩
theorem b91 {gl : GL} : Body (C gl).P 91 Tryd.f91 (codeOf Tryd.f91) := ⟨Tryd.func91, by kernel_rfl, by kernel_rfl⟩
theorem b89 {gl : GL} : Body (C gl).P 89 Tryd.f89 (codeOf Tryd.f89) := ⟨Tryd.func89, by kernel_rfl, by kernel_rfl⟩
theorem b145 {gl : GL} : Body (C gl).P 145 Tryd.f145 (codeOf Tryd.f145) := ⟨Tryd.func145, by kernel_rfl, by kernel_rfl⟩

section
variable {gl : GL}

theorem indexF_ok {p : Fm → Bool} {g : FuncId} {caps : List AV} {J : Sto → Prop} (hJ : Stays J) (xs : List Fm) (hlen : xs.length < 9223372036854775807) (hx : ∀ x ∈ xs, FnK (C gl) g caps J [encF x] (.bool (p x))) :
    FnK (C gl) 146 [] J [.list false (encFs xs), .fn g caps] (.int .i64 (idxF p xs 0)) := by
  refine ⟨⟨_, _, b146⟩, fun σ hj => ?_⟩
  suffices h : ∃ r σ', CallS (C gl) 146 [.list false (encFs xs), .fn g caps] σ r σ' ∧ (r = .int .i64 (idxF p xs 0) ∧ Kept 0 σ σ') by
    obtain ⟨r, σ', h1, rfl, h2⟩ := h; exact ⟨σ', h1, h2⟩
  refine call_of (R := fun r σ' => r = .int .i64 (idxF p xs 0) ∧ Kept 0 σ σ') b146 (by simp [Tryd.ntmps146]) ?_
  refine W.of ?_
  rw [Tryd.ntmps146]
  simp only [toK, codeOf, Tryd.f146, go_sem, seval, reduceCtorEq]
  refine WK.seq (WK.reg ?_)
  simp only [go_sem, seval, reduceCtorEq]
  refine WK.seq (WK.seq (WK.reg ?_))
  simp only [go_sem, seval, reduceCtorEq, encFs_len]
  refine WK.range xs.length hlen (fun i env τ => env 0 = .list false (encFs xs) ∧ env 1 = .fn g caps ∧ (∀ x ∈ xs.take i, p x = false) ∧ Kept 0 σ τ)
    (by decide) (by simp [go_sem]) (by simp [go_sem]) ⟨by simp [go_sem], by simp [go_sem], by simp, .refl 0 σ⟩ (by rintro i env σ v t (rfl | rfl | rfl) h <;> simpa [upd] using h) ?step ?done
  case step =>
    rintro i env τ hi ⟨h0, h1, hp, hk⟩ hi1 hi2
    refine WK.seq (WK.reg ?_)
    simp only [go_sem, seval, reduceCtorEq, hi1]
    refine WK.seq (WK.reg ?_)
    simp only [go_sem, seval, reduceCtorEq, h0, h1, encFs_len, encFs_get xs i hi]
    obtain ⟨o', v', l', hg⟩ : ∃ o' v' l', xs[i] = Fm.mk o' v' l' := by cases xs[i]; exact ⟨_, _, _, rfl⟩
    simp only [go_sem, seval, reduceCtorEq, hg, encF]
    refine ⟨by omega, ?_⟩
    have hxi := hx xs[i] (List.getElem_mem hi)
    refine callK_fnK hxi (hJ _ _ hj hk) rfl (by simp only [go_sem, seval, reduceCtorEq, h1]) (by simp only [go_sem, seval, reduceCtorEq, hg, encF]) fun τ' hk' => ?_
    simp only [go_sem, seval, reduceCtorEq]
    cases hpx : p xs[i] with
    | true =>
      refine WK.cond true (by simp only [go_sem, seval, reduceCtorEq]) (fun _ => ?_) (fun h => by cases h)
      refine WK.seq (WK.reg ?_)
      simp only [go_sem, seval, reduceCtorEq, hi1]
      refine WK.ret ?_
      simp only [go_sem, seval, reduceCtorEq]
      refine ⟨?_, hk.trans hk'⟩
      rw [idxF_drop p xs 0 i hp, List.drop_eq_getElem_cons hi]
      simp [idxF, hpx]
    | false =>
      refine WK.cond false (by simp only [go_sem, seval, reduceCtorEq]) (fun h => by cases h) (fun _ => ?_)
      refine WK.skip ?_
      simp only [go_sem, seval, reduceCtorEq, hi1, hi2, h0, h1]
      refine ⟨fun x hx => ?_, hk.trans hk'⟩
      rw [← List.take_append_getElem hi, List.mem_append, List.mem_singleton] at hx
      rcases hx with hx | rfl
      · exact hp x hx
      · exact hpx
  case done =>
    rintro env τ ⟨h0, h1, hp, hk⟩ _ _
    simp only [go_sem, seval, reduceCtorEq]
    refine WK.seq (WK.reg ?_)
    simp only [go_sem, seval, reduceCtorEq]
    refine WK.ret ?_
    simp only [go_sem, seval, reduceCtorEq]
    refine ⟨?_, hk⟩
    rw [idxF_drop p xs 0 xs.length hp]
    simp [idxF]

theorem containsF_ok {p : Fm → Bool} {g : FuncId} {caps : List AV} {J : Sto → Prop} (hJ : Stays J) (xs : List Fm) (hlen : xs.length < 9223372036854775807) (hx : ∀ x ∈ xs, FnK (C gl) g caps J [encF x] (.bool (p x))) :
    FnK (C gl) 91 [] J [.list false (encFs xs), .fn g caps] (.bool (xs.any p)) := by
  refine ⟨⟨_, _, b91⟩, fun σ hj => ?_⟩
  suffices h : ∃ r σ', CallS (C gl) 91 [.list false (encFs xs), .fn g caps] σ r σ' ∧ (r = .bool (xs.any p) ∧ Kept 0 σ σ') by
    obtain ⟨r, σ', h1, rfl, h2⟩ := h; exact ⟨σ', h1, h2⟩
  refine call_of (R := fun r σ' => r = .bool (xs.any p) ∧ Kept 0 σ σ') b91 (by simp [Tryd.ntmps91]) ?_
  refine W.of ?_
  rw [Tryd.ntmps91]
  simp only [toK, codeOf, Tryd.f91, go_sem, seval, reduceCtorEq]
  refine WK.seq (WK.reg ?_)
  simp only [go_sem, seval, reduceCtorEq]
  refine WK.seq (WK.reg ?_)
  simp only [go_sem, seval, reduceCtorEq]
  refine callK_fnK (indexF_ok hJ xs hlen hx) hj rfl (by simp only [go_sem, seval, reduceCtorEq]) (by simp only [go_sem, seval, reduceCtorEq]) fun τ hk => ?_
  simp only [go_sem, seval, reduceCtorEq, idxF_any]
  refine WK.ret ?_
  simp only [go_sem, seval, reduceCtorEq]
  exact hk

end

mutual
def plainF (nx : Int) : Fm → Bool
  | .mk o v l => if o = 8 then (match l with | [.mk o2 v2 l2] => decide (o2 = 2) && decide (v2 < nx) | _ => false) else decide (o < 8) && !plainN nx l
/-- Is there one that is not plain? -/
def plainN (nx : Int) : List Fm → Bool
  | [] => false
  | f :: l => !plainF nx f || plainN nx l
end
theorem plainN_any (nx : Int) : ∀ l : List Fm, plainN nx l = l.any fun f => !plainF nx f
  | [] => rfl
  | f :: l => by simp [plainN, plainN_any nx l]

section
variable {gl : GL}
theorem plain1_ok (nx : Int) (nb : Nat) (g : Fm) (h : PCall (C gl) 89 [encF g, .int .i64 nx] (.bool (plainF nx g))) :
    FnK (C gl) 145 [.ptr nb 0] (fun σ => σ.get nb = some (.box [.int .i64 nx]) ∧ nb < σ.next) [encF g] (.bool (!plainF nx g)) := by
  refine ⟨⟨_, _, b145⟩, fun σ hj => ?_⟩
  suffices h : ∃ r σ', CallS (C gl) 145 [encF g, .ptr nb 0] σ r σ' ∧ (r = .bool (!plainF nx g) ∧ Kept 0 σ σ') by
    obtain ⟨r, σ', h1, rfl, h2⟩ := h; exact ⟨σ', h1, h2⟩
  refine call_of (R := fun r σ' => r = .bool (!plainF nx g) ∧ Kept 0 σ σ') b145 (by simp [Tryd.ntmps145]) ?_
  obtain ⟨o, v, l⟩ := g
  obtain ⟨hj1, hj2⟩ := hj
  have hne : (nb = σ.next) = False := by simp; omega
  refine W.of ?_
  rw [Tryd.ntmps145]
  simp only [toK, codeOf, Tryd.f145, go_sem, seval, reduceCtorEq]
  refine WK.seq (WK.reg ?_)
  simp only [go_sem, seval, reduceCtorEq, encF]
  refine WK.seq (WK.reg ?_)
  simp only [go_sem, seval, reduceCtorEq, hne, hj1]
  refine callK_pure h rfl (by simp only [go_sem, seval, reduceCtorEq]) (by simp only [go_sem, seval, reduceCtorEq, encF]) ?_
  simp only [go_sem, seval, reduceCtorEq]
  refine WK.ret ?_
  simp only [go_sem, seval, reduceCtorEq]
  exact Kept.add 0 σ _

theorem plain_ok (nx : Int) (f : Fm) : Shrt f → PCall (C gl) 89 [encF f, .int .i64 nx] (.bool (plainF nx f)) := by
  induction f using Fm.ind with
  | h o v l ih =>
  intro hs
  simp only [Shrt] at hs
  refine pcall_of b89 (by simp [Tryd.ntmps89]) (by simp; exact ⟨closedF _, .int _ _⟩) (.bool _) ?_
  refine W.of ?_
  rw [Tryd.ntmps89]
  simp only [toK, codeOf, Tryd.f89, go_sem, seval, reduceCtorEq]
  refine WK.seq (WK.reg ?_)
  simp only [go_sem, seval, reduceCtorEq, encF]
  refine WK.seq (WK.seq (WK.reg ?_))
  simp only [go_sem, seval, reduceCtorEq]
  by_cases ho : o = 8
  · have hb : (o == 8) = true := by simp [ho]
    refine WK.cond true (by simp only [go_sem, seval, reduceCtorEq, hb]) (fun _ => ?_) (fun h => by cases h)
    refine WK.seq ?_
    refine WK.draw0 mixed (by kernel_rfl) ?_
    simp only [go_sem, seval, reduceCtorEq, encFs_len]
    match l with
    | [] =>
      simp only [go_sem, seval, reduceCtorEq]
      refine WK.ret ?_
      simp only [go_sem, seval, reduceCtorEq, plainF, ho]
    | [.mk o2 v2 l2] =>
      simp only [go_sem, seval, reduceCtorEq, encFs, encF]
      by_cases h2 : o2 = 2
      · have h3 : (o2 == 2) = true := by simp [h2]
        simp only [go_sem, seval, reduceCtorEq, h3]
        refine WK.ret ?_
        simp only [go_sem, seval, reduceCtorEq, plainF, ho, h2, decide_true]
      · have h3 : (o2 == 2) = false := by simp [h2]
        simp only [go_sem, seval, reduceCtorEq, h3]
        refine WK.ret ?_
        simp only [go_sem, seval, reduceCtorEq, plainF, ho, h2, decide_false, Bool.false_and]
    | _ :: _ :: r =>
      have h1 : (((r.length + 1 + 1 : Nat) : Int) == 1) = false := by simp; omega
      simp only [go_sem, seval, reduceCtorEq, h1]
      refine WK.ret ?_
      simp only [go_sem, seval, reduceCtorEq, plainF, ho]
  · have hb : (o == 8) = false := by simp [ho]
    refine WK.cond false (by simp only [go_sem, seval, reduceCtorEq, hb]) (fun h => by cases h) (fun _ => ?_)
    refine WK.skip ?_
    simp only [go_sem, seval, reduceCtorEq]
    refine WK.seq (WK.reg ?_)
    by_cases ho8 : o < 8
    · simp only [go_sem, seval, reduceCtorEq, ho8, decide_true]
      refine callK_fnK (containsF_ok (J := fun σ => σ.get 1 = some (.box [.int .i64 nx]) ∧ 1 < σ.next) (p := fun f => !plainF nx f) (fun σ σ' h k => ⟨(k.get 1 (by omega) h.2).trans h.1, Nat.lt_of_lt_of_le h.2 k.next⟩) l hs.1
        fun x hx => plain1_ok nx 1 x (ih x hx (hs.2.mem x hx))) ⟨by simp [go_sem], by simp [go_sem]⟩ rfl (by simp only [go_sem, seval, reduceCtorEq]) (by simp only [go_sem, seval, reduceCtorEq]) fun τ hk => ?_
      simp only [go_sem, seval, reduceCtorEq]
      refine WK.ret ?_
      simp only [go_sem, seval, reduceCtorEq, plainF, ho, ho8, decide_true, plainN_any]
    · simp only [go_sem, seval, reduceCtorEq, ho8, decide_false]
      refine WK.ret ?_
      simp only [go_sem, seval, reduceCtorEq, plainF, ho, ho8, decide_false, Bool.false_and]
end
end Go.Sx
