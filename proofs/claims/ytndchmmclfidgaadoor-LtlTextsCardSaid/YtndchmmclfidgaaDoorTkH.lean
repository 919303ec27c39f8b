import Derived.Test.YtndchmmclfidgaaDoorLgAw
import Derived.Test.YtndchmmclfidgaaDoorTkG
set_option maxRecDepth 100000
set_option linter.unusedSimpArgs false
set_option linter.unusedVariables false
set_option linter.unnecessarySimpa false
namespace Go.Sx
open Go Go.Lg Go.Proofs
theorem b170 {gl : GL} : Body (C gl).P 170 Tryd.f170 (codeOf Tryd.f170) := ⟨Tryd.func170, by kernel_rfl, by kernel_rfl⟩
theorem b104 {gl : GL} : Body (C gl).P 104 Tryd.f104 (codeOf Tryd.f104) := ⟨Tryd.func104, by kernel_rfl, by kernel_rfl⟩
theorem b43 {gl : GL} : Body (C gl).P 43 Tryd.f43 (codeOf Tryd.f43) := ⟨Tryd.func43, by kernel_rfl, by kernel_rfl⟩

/-! ## How many nodes a normal form has -/
def cntC (o : Int) (cs : List (Int × Int)) : Int × Int :=
  let p0 := (cs.getD 0 (0, 0)).1
  let n0 := (cs.getD 0 (0, 0)).2
  let p1 := (cs.getD 1 (0, 0)).1
  let n1 := (cs.getD 1 (0, 0)).2
  if o = 0 ∨ o = 1 then (1, 1)
  else if o = 2 then (1, 2)
  else if o = 3 then (n0, p0)
  else if o = 8 ∨ o = 9 ∨ o = 10 then (1 + p0, 1 + n0)
  else if o = 7 then (3 + p0 + n0 + p1 + n1, 3 + p0 + n0 + p1 + n1)
  else if o = 6 then (1 + n0 + p1, 1 + p0 + n1)
  else if o = 13 then (1 + p0 + p1, 3 + p0 + n0 + 2 * n1)
  else (1 + p0 + p1, 1 + n0 + n1)
def cap61 (c : Int × Int) : Int × Int := (if 61 < c.1 then 61 else c.1, if 61 < c.2 then 61 else c.2)
mutual
def cntF : Fm → Int × Int
  | .mk o _ l => cap61 (cntC o (cntL l))
def cntL : List Fm → List (Int × Int)
  | [] => []
  | f :: l => cntF f :: cntL l
end
theorem cntL_n : cntL [] = [] := (rfl)
theorem cntL_c (f : Fm) (l : List Fm) : cntL (f :: l) = cntF f :: cntL l := (rfl)
theorem cntC_nn (o : Int) (cs : List (Int × Int)) (h : ∀ c ∈ cs, 0 ≤ c.1 ∧ 0 ≤ c.2) : 0 ≤ (cntC o cs).1 ∧ 0 ≤ (cntC o cs).2 := by
  have hd : ∀ i, 0 ≤ (cs.getD i (0, 0)).1 ∧ 0 ≤ (cs.getD i (0, 0)).2 := by
    intro i
    rw [List.getD_eq_getElem?_getD]
    cases e : cs[i]? with
    | none => simp
    | some c => exact h c (List.mem_of_getElem? e)
  have h0 := hd 0
  have h1 := hd 1
  unfold cntC
  simp only
  repeat' split
  all_goals (simp only; omega)
mutual
theorem cntF_le : ∀ f : Fm, (0 ≤ (cntF f).1 ∧ (cntF f).1 ≤ 61) ∧ (0 ≤ (cntF f).2 ∧ (cntF f).2 ≤ 61)
  | .mk o v l => by
    have := cntC_nn o (cntL l) fun c hc => ⟨(cntL_le l c hc).1.1, (cntL_le l c hc).2.1⟩
    simp only [cntF, cap61]
    refine ⟨?_, ?_⟩ <;> split <;> omega
theorem cntL_le : ∀ l : List Fm, ∀ c ∈ cntL l, (0 ≤ c.1 ∧ c.1 ≤ 61) ∧ (0 ≤ c.2 ∧ c.2 ≤ 61)
  | [], c, hc => by simp [cntL] at hc
  | f :: l, c, hc => by
    rw [cntL] at hc
    rcases List.mem_cons.1 hc with rfl | hc
    · exact cntF_le f
    · exact cntL_le l c hc
end
theorem cntL_get : ∀ (l : List Fm) (i : Nat) (h : i < l.length), (cntL l).getD i (0, 0) = cntF l[i]
  | f :: l, 0, h => rfl
  | f :: l, i + 1, h => by rw [cntL, List.getD_cons_succ, cntL_get l i (by simpa using h)]; rfl
/-- The array of the first counts. -/
def arrC (q : Nat → Int) (i : Nat) : List AV := [.int .i64 (if 0 < i then q 0 else 0), .int .i64 (if 1 < i then q 1 else 0)]
theorem arrC_d (q : Nat → Int) (i : Nat) : arrC q i = [.int .i64 (if 0 < i then q 0 else 0), .int .i64 (if 1 < i then q 1 else 0)] := (rfl)
theorem arrC_wr (q : Nat → Int) (i : Nat) (h : i < 2) : wr (arrC q i) i [.int .i64 (q i)] = arrC q (i + 1) := by
  match i, h with
  | 0, _ => rfl
  | 1, _ => rfl
theorem belL_arrC {m : Nat} (q : Nat → Int) (i : Nat) : BelL m (arrC q i) = True := eq_true ⟨.int _ _, .int _ _, trivial⟩
attribute [go_sem] belL_arrC
section
variable {gl : GL}
theorem formed_k (n o v : Int) (l : List Fm) (hok : okNode n (.mk o v l) = true) (ih : ∀ g ∈ l, PCall (C gl) 170 [encF g] (.tup [.int .i64 (cntF g).1, .int .i64 (cntF g).2])) :
    PCall (C gl) 170 [encF (.mk o v l)] (.tup [.int .i64 (cntF (.mk o v l)).1, .int .i64 (cntF (.mk o v l)).2]) := by
  rw [okNode_eq] at hok
  simp only [Bool.and_eq_true] at hok
  obtain ⟨⟨⟨ho1, ho2⟩, hal⟩, hv⟩ := hok
  replace ho1 := of_decide_eq_true ho1
  replace ho2 := of_decide_eq_true ho2
  replace hal := of_decide_eq_true hal
  have hl2 : l.length ≤ 2 := by
    rcases arL_nat o.toNat (by omega) with h | h | h <;> (rw [h] at hal; omega)
  refine pcallX (callX_of b170 (by simp [Tryd.ntmps170]) ?_) (by simp only [AllCl, cl_encF, and_true]) (by simp only [cl_tup, AllCl, cl_int, and_true])
  refine W.of ?_
  rw [Tryd.ntmps170]
  simp only [toK, codeOf, Tryd.f170, go_sem, seval, reduceCtorEq]
  have H := And.intro @encFs_len @encF_eq
  refine goB ?_
  first | exact trivial | clear H
  refine WK.rangeX (l.length) [1, 4, 5, 9] [] (fun i => []) (fun i => ((Sto.none.add (.box [.int .i64 o, .int .i64 v, .list false (encFs l)])).add (.box (arrC (fun j => ((cntL l).getD j (0, 0)).1) i))).add (.box (arrC (fun j => ((cntL l).getD j (0, 0)).2) i))) (by omega) (by decide) (by simp only [go_sem, seval, reduceCtorEq, encFs_len, arrC]) (by simp only [go_sem, seval, reduceCtorEq, encFs_len, arrC]) (by simp only [go_sem, seval, reduceCtorEq, encFs_len, arrC, List.take_zero]) (by first | rfl | (simp only [go_sem, seval, reduceCtorEq, encFs_len, arrC]; done) | (refine Sto.ext' (by simp only [go_sem, seval, reduceCtorEq, encFs_len, arrC]) (fun i => ?_); simp only [go_sem, seval, reduceCtorEq, encFs_len, arrC]; repeat' split; all_goals (first | rfl | omega | simp_all))) ?_ ?_
  · intro i hi
    have c1 := arrC_wr (fun j => ((cntL l).getD j (0, 0)).1) i (by omega)
    have c2 := arrC_wr (fun j => ((cntL l).getD j (0, 0)).2) i (by omega)
    have cg := cntL_get l i hi
    simp only [go_sem, seval, reduceCtorEq, encFs_len]
    have e5 := encFs_get l i hi
    have H := And.intro @encFs_len (And.intro @e5 (And.intro @hi @encF_eq))
    refine goB ?_
    first | exact trivial | clear H
    refine callK_pureL (ih l[i] (List.getElem_mem hi)) rfl ?_ ?_ ?_ <;> simp only [go_sem, seval, reduceCtorEq, encFs_len, encF_eq]
    have H := @encFs_len
    refine goB ?_
    first | exact trivial | clear H
    simp only [wr, List.length_cons, List.length_nil, Nat.zero_add] at c1 c2
    rw [cg] at c1 c2
    have n1 : ∀ q i, (arrC q i).length = 2 := fun _ _ => rfl
    refine ⟨by rw [n1]; omega, ⟨by omega, by omega⟩, by rw [n1]; omega, ?_⟩
    rw [c1, c2]
    have H := @encFs_len
    exact cutA
  · have hcs : o = 0 ∨ o = 1 ∨ o = 2 ∨ o = 3 ∨ o = 4 ∨ o = 5 ∨ o = 6 ∨ o = 7 ∨ o = 8 ∨ o = 9 ∨ o = 10 ∨ o = 11 ∨ o = 12 ∨ o = 13 := by omega
    rcases hcs with rfl | rfl | rfl | rfl | rfl | rfl | rfl | rfl | rfl | rfl | rfl | rfl | rfl | rfl
    · have hl0 : l = [] := List.length_eq_zero_iff.1 (by have : (l.length : Int) = 0 := hal; omega)
      subst hl0
      simp only [go_sem, seval, reduceCtorEq, encFs_len, cntL, arrC, List.length_cons, List.length_nil]
      have H := And.intro @encFs_len (And.intro @cntL_n (And.intro @cntL_c (And.intro @arrC_d (And.intro @lcA (And.intro @lcB (And.intro @lnA @lnB))))))
      refine goB ?_
      first | exact trivial | clear H
      exact ⟨AV.le.refl _, cut_none _⟩
    · have hl0 : l = [] := List.length_eq_zero_iff.1 (by have : (l.length : Int) = 0 := hal; omega)
      subst hl0
      simp only [go_sem, seval, reduceCtorEq, encFs_len, cntL, arrC, List.length_cons, List.length_nil]
      have H := And.intro @encFs_len (And.intro @cntL_n (And.intro @cntL_c (And.intro @arrC_d (And.intro @lcA (And.intro @lcB (And.intro @lnA @lnB))))))
      refine goB ?_
      first | exact trivial | clear H
      exact ⟨AV.le.refl _, cut_none _⟩
    · have hl0 : l = [] := List.length_eq_zero_iff.1 (by have : (l.length : Int) = 0 := hal; omega)
      subst hl0
      simp only [go_sem, seval, reduceCtorEq, encFs_len, cntL, arrC, List.length_cons, List.length_nil]
      have H := And.intro @encFs_len (And.intro @cntL_n (And.intro @cntL_c (And.intro @arrC_d (And.intro @lcA (And.intro @lcB (And.intro @lnA @lnB))))))
      refine goB ?_
      first | exact trivial | clear H
      exact ⟨AV.le.refl _, cut_none _⟩
    · obtain ⟨g, rfl⟩ : ∃ g, l = [g] := List.length_eq_one_iff.1 (by have : (l.length : Int) = 1 := hal; omega)
      have bg := cntF_le g
      simp only [go_sem, seval, reduceCtorEq, encFs_len, cntL, arrC, List.length_cons, List.length_nil]
      have H := And.intro @encFs_len (And.intro @cntL_n (And.intro @cntL_c (And.intro @arrC_d (And.intro @lcA (And.intro @lcB (And.intro @lnA @lnB))))))
      refine goB ?_
      first | exact trivial | clear H
      refine WK.draw0 mixed (by kernel_rfl) ?_
      simp only [go_sem, seval, reduceCtorEq, encFs_len, cntL, arrC, List.length_cons, List.length_nil]
      have H := And.intro @encFs_len (And.intro @cntL_n (And.intro @cntL_c (And.intro @arrC_d (And.intro @lcA (And.intro @lcB (And.intro @lnA @lnB))))))
      refine goB ?_
      first | exact trivial | clear H
      exact ⟨AV.le.refl _, cut_none _⟩
    · obtain ⟨g, h, rfl⟩ : ∃ g h, l = [g, h] := len_two (by have : (l.length : Int) = 2 := hal; omega)
      have bg := cntF_le g
      have bh := cntF_le h
      have w0 : IntKind.i64.wrap (1 + (cntF g).1) = 1 + (cntF g).1 := wrap_lt (by omega) (by omega)
      have w1 : IntKind.i64.wrap (1 + (cntF g).1 + (cntF h).1) = 1 + (cntF g).1 + (cntF h).1 := wrap_lt (by omega) (by omega)
      have w2 : IntKind.i64.wrap (1 + (cntF g).2) = 1 + (cntF g).2 := wrap_lt (by omega) (by omega)
      have w3 : IntKind.i64.wrap (1 + (cntF g).2 + (cntF h).2) = 1 + (cntF g).2 + (cntF h).2 := wrap_lt (by omega) (by omega)
      simp only [go_sem, seval, reduceCtorEq, encFs_len, cntL, arrC, List.length_cons, List.length_nil, w0, w1, w2, w3]
      have H := And.intro @encFs_len (And.intro @cntL_n (And.intro @cntL_c (And.intro @arrC_d (And.intro @lcA (And.intro @lcB (And.intro @lnA (And.intro @lnB (And.intro @w0 (And.intro @w1 (And.intro @w2 @w3))))))))))
      refine goB ?_
      first | exact trivial | clear H
      refine WK.draw0 mixed (by kernel_rfl) ?_
      simp only [go_sem, seval, reduceCtorEq, encFs_len, cntL, arrC, List.length_cons, List.length_nil, w0, w1, w2, w3]
      have H := And.intro @encFs_len (And.intro @cntL_n (And.intro @cntL_c (And.intro @arrC_d (And.intro @lcA (And.intro @lcB (And.intro @lnA (And.intro @lnB (And.intro @w0 (And.intro @w1 (And.intro @w2 @w3))))))))))
      refine goB ?_
      first | exact trivial | clear H
      exact ⟨AV.le.refl _, cut_none _⟩
    · obtain ⟨g, h, rfl⟩ : ∃ g h, l = [g, h] := len_two (by have : (l.length : Int) = 2 := hal; omega)
      have bg := cntF_le g
      have bh := cntF_le h
      have w0 : IntKind.i64.wrap (1 + (cntF g).1) = 1 + (cntF g).1 := wrap_lt (by omega) (by omega)
      have w1 : IntKind.i64.wrap (1 + (cntF g).1 + (cntF h).1) = 1 + (cntF g).1 + (cntF h).1 := wrap_lt (by omega) (by omega)
      have w2 : IntKind.i64.wrap (1 + (cntF g).2) = 1 + (cntF g).2 := wrap_lt (by omega) (by omega)
      have w3 : IntKind.i64.wrap (1 + (cntF g).2 + (cntF h).2) = 1 + (cntF g).2 + (cntF h).2 := wrap_lt (by omega) (by omega)
      simp only [go_sem, seval, reduceCtorEq, encFs_len, cntL, arrC, List.length_cons, List.length_nil, w0, w1, w2, w3]
      have H := And.intro @encFs_len (And.intro @cntL_n (And.intro @cntL_c (And.intro @arrC_d (And.intro @lcA (And.intro @lcB (And.intro @lnA (And.intro @lnB (And.intro @w0 (And.intro @w1 (And.intro @w2 @w3))))))))))
      refine goB ?_
      first | exact trivial | clear H
      refine WK.draw0 mixed (by kernel_rfl) ?_
      simp only [go_sem, seval, reduceCtorEq, encFs_len, cntL, arrC, List.length_cons, List.length_nil, w0, w1, w2, w3]
      have H := And.intro @encFs_len (And.intro @cntL_n (And.intro @cntL_c (And.intro @arrC_d (And.intro @lcA (And.intro @lcB (And.intro @lnA (And.intro @lnB (And.intro @w0 (And.intro @w1 (And.intro @w2 @w3))))))))))
      refine goB ?_
      first | exact trivial | clear H
      exact ⟨AV.le.refl _, cut_none _⟩
    · obtain ⟨g, h, rfl⟩ : ∃ g h, l = [g, h] := len_two (by have : (l.length : Int) = 2 := hal; omega)
      have bg := cntF_le g
      have bh := cntF_le h
      have w0 : IntKind.i64.wrap (1 + (cntF g).2) = 1 + (cntF g).2 := wrap_lt (by omega) (by omega)
      have w1 : IntKind.i64.wrap (1 + (cntF g).2 + (cntF h).1) = 1 + (cntF g).2 + (cntF h).1 := wrap_lt (by omega) (by omega)
      have w2 : IntKind.i64.wrap (1 + (cntF g).1) = 1 + (cntF g).1 := wrap_lt (by omega) (by omega)
      have w3 : IntKind.i64.wrap (1 + (cntF g).1 + (cntF h).2) = 1 + (cntF g).1 + (cntF h).2 := wrap_lt (by omega) (by omega)
      simp only [go_sem, seval, reduceCtorEq, encFs_len, cntL, arrC, List.length_cons, List.length_nil, w0, w1, w2, w3]
      have H := And.intro @encFs_len (And.intro @cntL_n (And.intro @cntL_c (And.intro @arrC_d (And.intro @lcA (And.intro @lcB (And.intro @lnA (And.intro @lnB (And.intro @w0 (And.intro @w1 (And.intro @w2 @w3))))))))))
      refine goB ?_
      first | exact trivial | clear H
      refine WK.draw0 mixed (by kernel_rfl) ?_
      simp only [go_sem, seval, reduceCtorEq, encFs_len, cntL, arrC, List.length_cons, List.length_nil, w0, w1, w2, w3]
      have H := And.intro @encFs_len (And.intro @cntL_n (And.intro @cntL_c (And.intro @arrC_d (And.intro @lcA (And.intro @lcB (And.intro @lnA (And.intro @lnB (And.intro @w0 (And.intro @w1 (And.intro @w2 @w3))))))))))
      refine goB ?_
      first | exact trivial | clear H
      exact ⟨AV.le.refl _, cut_none _⟩
    · obtain ⟨g, h, rfl⟩ : ∃ g h, l = [g, h] := len_two (by have : (l.length : Int) = 2 := hal; omega)
      have bg := cntF_le g
      have bh := cntF_le h
      have w0 : IntKind.i64.wrap (3 + (cntF g).1) = 3 + (cntF g).1 := wrap_lt (by omega) (by omega)
      have w1 : IntKind.i64.wrap (3 + (cntF g).1 + (cntF g).2) = 3 + (cntF g).1 + (cntF g).2 := wrap_lt (by omega) (by omega)
      have w2 : IntKind.i64.wrap (3 + (cntF g).1 + (cntF g).2 + (cntF h).1) = 3 + (cntF g).1 + (cntF g).2 + (cntF h).1 := wrap_lt (by omega) (by omega)
      have w3 : IntKind.i64.wrap (3 + (cntF g).1 + (cntF g).2 + (cntF h).1 + (cntF h).2) = 3 + (cntF g).1 + (cntF g).2 + (cntF h).1 + (cntF h).2 := wrap_lt (by omega) (by omega)
      simp only [go_sem, seval, reduceCtorEq, encFs_len, cntL, arrC, List.length_cons, List.length_nil, w0, w1, w2, w3]
      have H := And.intro @encFs_len (And.intro @cntL_n (And.intro @cntL_c (And.intro @arrC_d (And.intro @lcA (And.intro @lcB (And.intro @lnA (And.intro @lnB (And.intro @w0 (And.intro @w1 (And.intro @w2 @w3))))))))))
      refine goB ?_
      first | exact trivial | clear H
      exact ⟨AV.le.refl _, cut_none _⟩
    · obtain ⟨g, rfl⟩ : ∃ g, l = [g] := List.length_eq_one_iff.1 (by have : (l.length : Int) = 1 := hal; omega)
      have bg := cntF_le g
      have w0 : IntKind.i64.wrap (1 + (cntF g).1) = 1 + (cntF g).1 := wrap_lt (by omega) (by omega)
      have w1 : IntKind.i64.wrap (1 + (cntF g).2) = 1 + (cntF g).2 := wrap_lt (by omega) (by omega)
      simp only [go_sem, seval, reduceCtorEq, encFs_len, cntL, arrC, List.length_cons, List.length_nil, w0, w1]
      have H := And.intro @encFs_len (And.intro @cntL_n (And.intro @cntL_c (And.intro @arrC_d (And.intro @lcA (And.intro @lcB (And.intro @lnA (And.intro @lnB (And.intro @w0 @w1))))))))
      refine goB ?_
      first | exact trivial | clear H
      refine WK.draw0 mixed (by kernel_rfl) ?_
      simp only [go_sem, seval, reduceCtorEq, encFs_len, cntL, arrC, List.length_cons, List.length_nil, w0, w1]
      have H := And.intro @encFs_len (And.intro @cntL_n (And.intro @cntL_c (And.intro @arrC_d (And.intro @lcA (And.intro @lcB (And.intro @lnA (And.intro @lnB (And.intro @w0 @w1))))))))
      refine goB ?_
      first | exact trivial | clear H
      exact ⟨AV.le.refl _, cut_none _⟩
    · obtain ⟨g, rfl⟩ : ∃ g, l = [g] := List.length_eq_one_iff.1 (by have : (l.length : Int) = 1 := hal; omega)
      have bg := cntF_le g
      have w0 : IntKind.i64.wrap (1 + (cntF g).1) = 1 + (cntF g).1 := wrap_lt (by omega) (by omega)
      have w1 : IntKind.i64.wrap (1 + (cntF g).2) = 1 + (cntF g).2 := wrap_lt (by omega) (by omega)
      simp only [go_sem, seval, reduceCtorEq, encFs_len, cntL, arrC, List.length_cons, List.length_nil, w0, w1]
      have H := And.intro @encFs_len (And.intro @cntL_n (And.intro @cntL_c (And.intro @arrC_d (And.intro @lcA (And.intro @lcB (And.intro @lnA (And.intro @lnB (And.intro @w0 @w1))))))))
      refine goB ?_
      first | exact trivial | clear H
      refine WK.draw0 mixed (by kernel_rfl) ?_
      simp only [go_sem, seval, reduceCtorEq, encFs_len, cntL, arrC, List.length_cons, List.length_nil, w0, w1]
      have H := And.intro @encFs_len (And.intro @cntL_n (And.intro @cntL_c (And.intro @arrC_d (And.intro @lcA (And.intro @lcB (And.intro @lnA (And.intro @lnB (And.intro @w0 @w1))))))))
      refine goB ?_
      first | exact trivial | clear H
      exact ⟨AV.le.refl _, cut_none _⟩
    · obtain ⟨g, rfl⟩ : ∃ g, l = [g] := List.length_eq_one_iff.1 (by have : (l.length : Int) = 1 := hal; omega)
      have bg := cntF_le g
      have w0 : IntKind.i64.wrap (1 + (cntF g).1) = 1 + (cntF g).1 := wrap_lt (by omega) (by omega)
      have w1 : IntKind.i64.wrap (1 + (cntF g).2) = 1 + (cntF g).2 := wrap_lt (by omega) (by omega)
      simp only [go_sem, seval, reduceCtorEq, encFs_len, cntL, arrC, List.length_cons, List.length_nil, w0, w1]
      have H := And.intro @encFs_len (And.intro @cntL_n (And.intro @cntL_c (And.intro @arrC_d (And.intro @lcA (And.intro @lcB (And.intro @lnA (And.intro @lnB (And.intro @w0 @w1))))))))
      refine goB ?_
      first | exact trivial | clear H
      refine WK.draw0 mixed (by kernel_rfl) ?_
      simp only [go_sem, seval, reduceCtorEq, encFs_len, cntL, arrC, List.length_cons, List.length_nil, w0, w1]
      have H := And.intro @encFs_len (And.intro @cntL_n (And.intro @cntL_c (And.intro @arrC_d (And.intro @lcA (And.intro @lcB (And.intro @lnA (And.intro @lnB (And.intro @w0 @w1))))))))
      refine goB ?_
      first | exact trivial | clear H
      exact ⟨AV.le.refl _, cut_none _⟩
    · obtain ⟨g, h, rfl⟩ : ∃ g h, l = [g, h] := len_two (by have : (l.length : Int) = 2 := hal; omega)
      have bg := cntF_le g
      have bh := cntF_le h
      have w0 : IntKind.i64.wrap (1 + (cntF g).1) = 1 + (cntF g).1 := wrap_lt (by omega) (by omega)
      have w1 : IntKind.i64.wrap (1 + (cntF g).1 + (cntF h).1) = 1 + (cntF g).1 + (cntF h).1 := wrap_lt (by omega) (by omega)
      have w2 : IntKind.i64.wrap (1 + (cntF g).2) = 1 + (cntF g).2 := wrap_lt (by omega) (by omega)
      have w3 : IntKind.i64.wrap (1 + (cntF g).2 + (cntF h).2) = 1 + (cntF g).2 + (cntF h).2 := wrap_lt (by omega) (by omega)
      simp only [go_sem, seval, reduceCtorEq, encFs_len, cntL, arrC, List.length_cons, List.length_nil, w0, w1, w2, w3]
      have H := And.intro @encFs_len (And.intro @cntL_n (And.intro @cntL_c (And.intro @arrC_d (And.intro @lcA (And.intro @lcB (And.intro @lnA (And.intro @lnB (And.intro @w0 (And.intro @w1 (And.intro @w2 @w3))))))))))
      refine goB ?_
      first | exact trivial | clear H
      refine WK.draw0 mixed (by kernel_rfl) ?_
      simp only [go_sem, seval, reduceCtorEq, encFs_len, cntL, arrC, List.length_cons, List.length_nil, w0, w1, w2, w3]
      have H := And.intro @encFs_len (And.intro @cntL_n (And.intro @cntL_c (And.intro @arrC_d (And.intro @lcA (And.intro @lcB (And.intro @lnA (And.intro @lnB (And.intro @w0 (And.intro @w1 (And.intro @w2 @w3))))))))))
      refine goB ?_
      first | exact trivial | clear H
      exact ⟨AV.le.refl _, cut_none _⟩
    · obtain ⟨g, h, rfl⟩ : ∃ g h, l = [g, h] := len_two (by have : (l.length : Int) = 2 := hal; omega)
      have bg := cntF_le g
      have bh := cntF_le h
      have w0 : IntKind.i64.wrap (1 + (cntF g).1) = 1 + (cntF g).1 := wrap_lt (by omega) (by omega)
      have w1 : IntKind.i64.wrap (1 + (cntF g).1 + (cntF h).1) = 1 + (cntF g).1 + (cntF h).1 := wrap_lt (by omega) (by omega)
      have w2 : IntKind.i64.wrap (1 + (cntF g).2) = 1 + (cntF g).2 := wrap_lt (by omega) (by omega)
      have w3 : IntKind.i64.wrap (1 + (cntF g).2 + (cntF h).2) = 1 + (cntF g).2 + (cntF h).2 := wrap_lt (by omega) (by omega)
      simp only [go_sem, seval, reduceCtorEq, encFs_len, cntL, arrC, List.length_cons, List.length_nil, w0, w1, w2, w3]
      have H := And.intro @encFs_len (And.intro @cntL_n (And.intro @cntL_c (And.intro @arrC_d (And.intro @lcA (And.intro @lcB (And.intro @lnA (And.intro @lnB (And.intro @w0 (And.intro @w1 (And.intro @w2 @w3))))))))))
      refine goB ?_
      first | exact trivial | clear H
      refine WK.draw0 mixed (by kernel_rfl) ?_
      simp only [go_sem, seval, reduceCtorEq, encFs_len, cntL, arrC, List.length_cons, List.length_nil, w0, w1, w2, w3]
      have H := And.intro @encFs_len (And.intro @cntL_n (And.intro @cntL_c (And.intro @arrC_d (And.intro @lcA (And.intro @lcB (And.intro @lnA (And.intro @lnB (And.intro @w0 (And.intro @w1 (And.intro @w2 @w3))))))))))
      refine goB ?_
      first | exact trivial | clear H
      exact ⟨AV.le.refl _, cut_none _⟩
    · obtain ⟨g, h, rfl⟩ : ∃ g h, l = [g, h] := len_two (by have : (l.length : Int) = 2 := hal; omega)
      have bg := cntF_le g
      have bh := cntF_le h
      have w0 : IntKind.i64.wrap (1 + (cntF g).1) = 1 + (cntF g).1 := wrap_lt (by omega) (by omega)
      have w1 : IntKind.i64.wrap (1 + (cntF g).1 + (cntF h).1) = 1 + (cntF g).1 + (cntF h).1 := wrap_lt (by omega) (by omega)
      have w2 : IntKind.i64.wrap (3 + (cntF g).1) = 3 + (cntF g).1 := wrap_lt (by omega) (by omega)
      have w3 : IntKind.i64.wrap (3 + (cntF g).1 + (cntF g).2) = 3 + (cntF g).1 + (cntF g).2 := wrap_lt (by omega) (by omega)
      have w4 : IntKind.i64.wrap (2 * (cntF h).2) = 2 * (cntF h).2 := wrap_lt (by omega) (by omega)
      have w5 : IntKind.i64.wrap (3 + (cntF g).1 + (cntF g).2 + 2 * (cntF h).2) = 3 + (cntF g).1 + (cntF g).2 + 2 * (cntF h).2 := wrap_lt (by omega) (by omega)
      simp only [go_sem, seval, reduceCtorEq, encFs_len, cntL, arrC, List.length_cons, List.length_nil, w0, w1, w2, w3, w4, w5]
      have H := And.intro @encFs_len (And.intro @cntL_n (And.intro @cntL_c (And.intro @arrC_d (And.intro @lcA (And.intro @lcB (And.intro @lnA (And.intro @lnB (And.intro @w0 (And.intro @w1 (And.intro @w2 (And.intro @w3 (And.intro @w4 @w5))))))))))))
      refine goB ?_
      first | exact trivial | clear H
      refine WK.draw0 mixed (by kernel_rfl) ?_
      simp only [go_sem, seval, reduceCtorEq, encFs_len, cntL, arrC, List.length_cons, List.length_nil, w0, w1, w2, w3, w4, w5]
      have H := And.intro @encFs_len (And.intro @cntL_n (And.intro @cntL_c (And.intro @arrC_d (And.intro @lcA (And.intro @lcB (And.intro @lnA (And.intro @lnB (And.intro @w0 (And.intro @w1 (And.intro @w2 (And.intro @w3 (And.intro @w4 @w5))))))))))))
      refine goB ?_
      first | exact trivial | clear H
      exact ⟨AV.le.refl _, cut_none _⟩
theorem len_nodesL : ∀ l : List Fm, l.length ≤ (nodesL l).length
  | [] => Nat.le_refl _
  | .mk o v a :: l => by
    have := len_nodesL l
    simp only [nodesL, nodesF, List.length_cons, List.length_append]; omega
mutual
theorem shorF_of : ∀ f : Fm, (nodesF f).length < 1000000 → ShorF f
  | .mk o v l, h => by
    simp only [nodesF, List.length_cons] at h
    have := len_nodesL l
    exact ⟨by omega, shorFL_of l (by omega)⟩
theorem shorFL_of : ∀ l : List Fm, (nodesL l).length < 1000000 → ShorL l
  | [], _ => trivial
  | f :: l, h => by
    simp only [nodesL, List.length_append] at h
    exact ⟨shorF_of f (by omega), shorFL_of l (by omega)⟩
end
theorem formed_ok (n : Int) (f : Fm) : (∀ g ∈ nodesF f, okNode n g = true) → PCall (C gl) 170 [encF f] (.tup [.int .i64 (cntF f).1, .int .i64 (cntF f).2]) := by
  induction f using Fm.ind with
  | h o v l ih =>
    intro hok
    exact formed_k n o v l (hok _ (nodes_self _)) fun g hg => ih g hg fun x hx => hok x (by rw [nodesF]; exact List.mem_cons_of_mem _ (nodesL_sub hg hx))
/-- What form answers. -/
def nnfS (yes : Bool) (f : Fm) : Fm × Int :=
  if validF f 6 then (if (if yes then (cntF f).1 else (cntF f).2) > 60 then (fz, 3) else (formF yes f, 0)) else (fz, 1)
theorem form0_ok (har : gl.at' 0 = arityA) (f : Fm) (hs : Shrt f) (yes : Bool) : PCall (C gl) 104 [encF f, .bool yes] (.tup [encF (nnfS yes f).1, .int .i64 (nnfS yes f).2]) := by
  refine pcallX (callX_of b104 (by simp [Tryd.ntmps104]) ?_) (by simp only [AllCl, cl_encF, cl_bool, and_true]) (by simp only [cl_tup, AllCl, cl_encF, cl_int, and_true])
  refine W.of ?_
  rw [Tryd.ntmps104]
  simp only [toK, codeOf, Tryd.f104, go_sem, seval, reduceCtorEq]
  have H := @encF_eq
  refine goB ?_
  first | exact trivial | clear H
  refine callK_pureL (valid6_ok har f hs) rfl ?_ ?_ ?_ <;> simp only [go_sem, seval, reduceCtorEq, encF_eq]
  cases hv : validF f 6 with
  | false =>
    have e : nnfS yes f = (fz, 1) := by rw [nnfS, hv]; rfl
    rw [e]
    have H := @hv
    refine goB ?_
    first | exact trivial | clear H
    exact ⟨AV.le_tup ⟨AV.le_agg ⟨.refl _, .refl _, AV.le_list' _, trivial⟩, .refl _, trivial⟩, cut_none _⟩
  | true =>
  have hok := ((validF_iff f 6).1 hv)
  have H := @hv
  refine goB ?_
  first | exact trivial | clear H
  refine callK_pureL (formed_ok 6 f hok.2.2.2) rfl ?_ ?_ ?_ <;> simp only [go_sem, seval, reduceCtorEq, encF_eq]
  have H := trivial
  refine goB ?_
  first | exact trivial | clear H
  have hsf : ShorF f := shorF_of f (by have := hok.2.2.1; omega)
  cases yes with
  | true =>
    cases hc : decide ((cntF f).1 > 60) with
    | true =>
      have e : nnfS true f = (fz, 3) := by rw [nnfS, hv, if_pos rfl, if_pos rfl, if_pos (of_decide_eq_true hc)]
      rw [e]
      have H := @hc
      refine goB ?_
      first | exact trivial | clear H
      exact ⟨AV.le_tup ⟨AV.le_agg ⟨.refl _, .refl _, AV.le_list' _, trivial⟩, .refl _, trivial⟩, cut_none _⟩
    | false =>
      have e : nnfS true f = (formF true f, 0) := by rw [nnfS, hv, if_pos rfl, if_pos rfl, if_neg (of_decide_eq_false hc)]
      rw [e]
      have H := @hc
      refine goB ?_
      first | exact trivial | clear H
      refine callK_pureL (form_ok 6 f hsf hok.2.2.2 true) rfl ?_ ?_ ?_ <;> simp only [go_sem, seval, reduceCtorEq, encF_eq]
      have H := trivial
      refine goB ?_
      first | exact trivial | clear H
      exact cut_none _
  | false =>
    cases hc : decide ((cntF f).2 > 60) with
    | true =>
      have e : nnfS false f = (fz, 3) := by rw [nnfS, hv, if_pos rfl, if_neg Bool.false_ne_true, if_pos (of_decide_eq_true hc)]
      rw [e]
      have H := @hc
      refine goB ?_
      first | exact trivial | clear H
      exact ⟨AV.le_tup ⟨AV.le_agg ⟨.refl _, .refl _, AV.le_list' _, trivial⟩, .refl _, trivial⟩, cut_none _⟩
    | false =>
      have e : nnfS false f = (formF false f, 0) := by rw [nnfS, hv, if_pos rfl, if_neg Bool.false_ne_true, if_neg (of_decide_eq_false hc)]
      rw [e]
      have H := @hc
      refine goB ?_
      first | exact trivial | clear H
      refine callK_pureL (form_ok 6 f hsf hok.2.2.2 false) rfl ?_ ?_ ?_ <;> simp only [go_sem, seval, reduceCtorEq, encF_eq]
      have H := trivial
      refine goB ?_
      first | exact trivial | clear H
      exact cut_none _
theorem negate_ok (har : gl.at' 0 = arityA) (f : Fm) (hs : Shrt f) : PCall (C gl) 43 [encF f] (.tup [encF (nnfS false f).1, .int .i64 (nnfS false f).2]) := by
  refine pcallX (callX_of b43 (by simp [Tryd.ntmps43]) ?_) (by simp only [AllCl, cl_encF, and_true]) (by simp only [cl_tup, AllCl, cl_encF, cl_int, and_true])
  refine W.of ?_
  rw [Tryd.ntmps43]
  simp only [toK, codeOf, Tryd.f43, go_sem, seval, reduceCtorEq]
  have H := @encF_eq
  refine goB ?_
  first | exact trivial | clear H
  refine callK_pureL (form0_ok har f hs false) rfl ?_ ?_ ?_ <;> simp only [go_sem, seval, reduceCtorEq, encF_eq]
  have H := trivial
  refine goB ?_
  first | exact trivial | clear H
  exact cut_none _
end
end Go.Sx
