import Derived.Test.YtndchmmclfidgaaDoorLgAw
import Derived.Test.YtndchmmclfidgaaDoorTlN
import Derived.Test.YtndchmmclfidgaaDoorTlM
set_option maxRecDepth 100000
set_option maxHeartbeats 4000000
set_option linter.unusedSimpArgs false
set_option linter.unusedVariables false
set_option linter.unnecessarySimpa false
namespace Go.Sx
open Go Go.Lg Go.Proofs
theorem b100 {gl : GL} : Body (C gl).P 100 Tryd.f100 (codeOf Tryd.f100) := ⟨Tryd.func100, by kernel_rfl, by kernel_rfl⟩
/-! ## The reference's tokens -/
def tokRS (s : Bs) : List Bs × Bool := if (toksS s).all goodT then (toksS s, true) else ([], false)
theorem bad_tok {acc : List Bs} {c : UInt8} {r s : Bs} (hI : acc ++ toksS (c :: r) = toksS s) (hsp : ((c.toNat : Int) == 32) = false) (h0 : refLen (c :: r) = 0) : tokRS s = ([], false) := by
  have hg : goodT ((c :: r).take (tokLen (c :: r))) = false := by
    cases e : goodT ((c :: r).take (tokLen (c :: r))) with
    | false => rfl
    | true => rw [ref_good, e, if_pos rfl] at h0; have := tokLen_pos (c :: r); omega
  unfold tokRS
  rw [← hI, toksS_tok hsp rfl, List.all_append, List.all_cons, hg, Bool.false_and, Bool.and_false, if_neg Bool.false_ne_true]
theorem good_tok {acc : List Bs} {c : UInt8} {r s : Bs} (hI : acc ++ toksS (c :: r) = toksS s) (hA : acc.all goodT = true) (hsp : ((c.toNat : Int) == 32) = false) {k : Nat} (hk : refLen (c :: r) = k) (h0 : k ≠ 0) :
    (acc ++ [(c :: r).take k]) ++ toksS ((c :: r).drop k) = toksS s ∧ (acc ++ [(c :: r).take k]).all goodT = true ∧ k ≤ (c :: r).length := by
  have hg : goodT ((c :: r).take (tokLen (c :: r))) = true := by
    cases e : goodT ((c :: r).take (tokLen (c :: r))) with
    | true => rfl
    | false => rw [ref_good, e, if_neg Bool.false_ne_true] at hk; exact absurd hk.symm h0
  have hkt : k = tokLen (c :: r) := by rw [← hk, ref_good, hg, if_pos rfl]
  refine ⟨?_, ?_, ?_⟩
  · rw [← hI, toksS_tok hsp hkt, List.append_assoc]; rfl
  · rw [List.all_append, hA, List.all_cons, hkt, hg]; rfl
  · rw [hkt]; exact tokLen_le c r
theorem dec_set : ∀ k, k < 11 → Utf8.decode (tx setT) k = ((setT.getD k 0).toNat, 1) := by
  intro k hk
  obtain rfl | rfl | rfl | rfl | rfl | rfl | rfl | rfl | rfl | rfl | rfl : k = 0 ∨ k = 1 ∨ k = 2 ∨ k = 3 ∨ k = 4 ∨ k = 5 ∨ k = 6 ∨ k = 7 ∨ k = 8 ∨ k = 9 ∨ k = 10 := by omega
  all_goals kernel_rfl
theorem cont_set (k : Nat) (hk : k < 11) (c : UInt8) : (setT.take (k + 1)).contains c = ((setT.take k).contains c || c == setT.getD k 0) := by
  have hl : k < setT.length := hk
  rw [← List.take_append_getElem hl, List.contains_eq_any_beq, List.contains_eq_any_beq, List.any_append, List.getD_eq_getElem?_getD, List.getElem?_eq_getElem hl]
  simp
theorem u8_eq (a b : UInt8) : ((a.toNat : Int) == (b.toNat : Int)) = (a == b) := by
  cases e : a == b with
  | true => rw [eq_of_beq e]; exact beq_self_eq_true _
  | false =>
    refine beq_eq_false_iff_ne.2 fun h => ?_
    have := beq_eq_false_iff_ne.1 e
    exact this (UInt8.toNat_inj.1 (by omega))
theorem belO_itr (m : Nat) (s : ByteArray) (p : Nat) : BelO m (.itr s p) = True := (rfl)
attribute [go_sem] belO_itr
theorem wrap_u8 (c : UInt8) : IntKind.i32.wrap (c.toNat : Int) = c.toNat := by
  have := c.toNat_lt
  exact IntWalk.i32_in _ ⟨by omega, by omega⟩
section
variable {gl : GL}
theorem st9' : isStT (C gl) 9 = true := by kernel_rfl
attribute [go_sem] st9'
theorem tokensR_ok (s : Bs) (hs : s.length < 1000000) : PCall (C gl) 100 [.str (tx s)] (.tup [.list false ((tokRS s).1.map encT), .bool (tokRS s).2]) := by
  refine pcallX (callX_of b100 (by simp [Tryd.ntmps100]) ?_) (by simp only [AllCl, cl_str, and_true]) (by simp only [cl_tup, AllCl, cl_list, cl_bool, and_true]; exact of_eq_true (clE_T _))
  refine W.of ?_
  rw [Tryd.ntmps100]
  simp only [toK, codeOf, Tryd.f100, go_sem, seval, reduceCtorEq]
  have H := trivial
  refine goB ?_
  first | exact trivial | clear H
  refine WK.own0 4 1 (by decide) (by simp only [go_sem, seval, reduceCtorEq]) ?_
  refine WK.block ?_
  refine WK.loopX [0] [4, 5] (fun p : List Bs × Nat => [.own 0 (p.1.map encT), .int .i64 p.2]) (fun p => Sto.none.add (.tok 1 p.1.length)) (fun p => p.1 ++ toksS (s.drop p.2) = toksS s ∧ p.1.all goodT = true ∧ p.2 ≤ s.length ∧ p.1.length ≤ p.2) (fun p => s.length - p.2) ([], 0) (by decide) ⟨rfl, rfl, Nat.zero_le _, Nat.le_refl _⟩ (by simp only [go_sem, seval, reduceCtorEq, List.map_nil]) rfl ?_
  rintro ⟨acc, i⟩ ⟨hI, hA, hi, hai⟩
  simp only at hI hA hi hai
  simp only [go_sem, seval, reduceCtorEq]
  cases hlt : decide ((i : Int) < (s.length : Int)) with
  | false =>
    have hil : i = s.length := by have := of_decide_eq_false hlt; omega
    rw [hil, List.drop_length, toksS_nil, List.append_nil] at hI
    have e : tokRS s = (toksS s, true) := by unfold tokRS; rw [← hI, if_pos hA]
    rw [e, ← hI]
    have H := @hlt
    refine goB ?_
    first | exact trivial | clear H
    exact ⟨AV.le_tup ⟨le_own _ _, .refl _, trivial⟩, cut_none _⟩
  | true =>
    have hil : i < s.length := by have := of_decide_eq_true hlt; omega
    have hd : s.drop i = s[i] :: s.drop (i + 1) := List.drop_eq_getElem_cons hil
    have hby : byI s i = (s[i].toNat : Int) := by unfold byI; simp [List.getD_eq_getElem?_getD, hil]
    have w1 : IntKind.i64.wrap ((i : Int) + 1) = ((i + 1 : Nat) : Int) := by rw [wrap_lt (by omega) (by omega)]; rfl
    generalize s[i] = c at hd hby
    rw [hd] at hI
    cases hsp : ((c.toNat : Int) == 32) with
    | true =>
      rw [toksS_sp hsp] at hI
      have H := And.intro @hby (And.intro @w1 (And.intro @hlt @hsp))
      refine goB ?_
      first | exact trivial | clear H
      exact ⟨(acc, i + 1), ⟨hI, hA, hil, Nat.le_succ_of_le hai⟩, by simp only; omega, ⟨.refl _, .refl _⟩, .refl _⟩
    | false =>
      have H := And.intro @hby (And.intro @w1 (And.intro @hlt @hsp))
      refine goB ?_
      first | exact trivial | clear H
      refine callK_pureL (small_ok (gl := gl) (c.toNat : Int)) rfl ?_ ?_ ?_ <;> simp only [go_sem, seval, reduceCtorEq, hby, w1]
      cases hlo : lowI (c.toNat : Int) with
      | true =>
        have hrf : refLen (c :: s.drop (i + 1)) = idW (s.drop i) := by rw [hd]; simp only [refLen, hlo, if_true]
        have hpos : 0 < idW (s.drop i) := by
          have hc : idC c = true := by unfold idC idI; rw [hlo]; rfl
          rw [hd]; unfold idW; rw [List.takeWhile_cons, if_pos hc, List.length_cons]; omega
        have H := And.intro @hby (And.intro @w1 @hlo)
        refine goB ?_
        first | exact trivial | clear H
        refine WK.block ?_
        refine WK.loopX [0, 4, 5, 6] [7] (fun k : Nat => [.int .i64 k]) (fun _ => Sto.none.add (.tok 1 acc.length)) (fun k => i + k ≤ s.length ∧ idW (s.drop i) = k + idW (s.drop (i + k))) (fun k => s.length - (i + k)) 0 (by decide) ⟨by omega, by simp⟩ (by simp only [go_sem, seval, reduceCtorEq]) rfl ?_
        rintro k ⟨hk, hkt⟩
        simp only [go_sem, seval, reduceCtorEq]
        have wik : IntKind.i64.wrap ((i : Int) + (k : Int)) = ((i + k : Nat) : Int) := by rw [wrap_lt (by omega) (by omega)]; omega
        by_cases hb : i + k < s.length
        · have hbd : decide (((i + k : Nat) : Int) < (s.length : Int)) = true := by simp; omega
          have wk : IntKind.i64.wrap ((k : Int) + 1) = ((k + 1 : Nat) : Int) := by rw [wrap_lt (by omega) (by omega)]; omega
          have H := And.intro @hby (And.intro @w1 (And.intro @wik (And.intro @hbd @wk)))
          refine goB ?_
          first | exact trivial | clear H
          refine callK_pureL (small_ok (gl := gl) (byI s (i + k))) rfl ?_ ?_ ?_ <;> simp only [go_sem, seval, reduceCtorEq, hby, w1, wik, hbd, wk]
          cases q1 : lowI (byI s (i + k)) with
          | true =>
            have H := And.intro @hby (And.intro @w1 (And.intro @wik (And.intro @hbd (And.intro @wk @q1))))
            refine goB ?_
            first | exact trivial | clear H
            have hst := idW_step hb (by simp only [idI, q1, Bool.true_or])
            exact ⟨k + 1, ⟨by omega, by rw [show i + (k + 1) = i + k + 1 from rfl]; omega⟩, by omega, rfl⟩
          | false =>
            have H := And.intro @hby (And.intro @w1 (And.intro @wik (And.intro @hbd (And.intro @wk @q1))))
            refine goB ?_
            first | exact trivial | clear H
            refine callK_pureL (digit_ok (gl := gl) (byI s (i + k))) rfl ?_ ?_ ?_ <;> simp only [go_sem, seval, reduceCtorEq, hby, w1, wik, hbd, wk]
            cases q2 : digI (byI s (i + k)) with
            | true =>
              have H := And.intro @hby (And.intro @w1 (And.intro @wik (And.intro @hbd (And.intro @wk (And.intro @q1 @q2)))))
              refine goB ?_
              first | exact trivial | clear H
              have hst := idW_step hb (by simp only [idI, q1, Bool.false_or]; exact q2)
              exact ⟨k + 1, ⟨by omega, by rw [show i + (k + 1) = i + k + 1 from rfl]; omega⟩, by omega, rfl⟩
            | false =>
              have hstop : k = idW (s.drop i) := by rw [hkt, idW_stop hb (by simp only [idI, q1, Bool.false_or]; exact q2), Nat.add_zero]
              have hk0 : ((k : Int) == 0) = false := beq_eq_false_iff_ne.2 (by omega)
              have H := And.intro @hby (And.intro @w1 (And.intro @wik (And.intro @hbd (And.intro @wk (And.intro @hk0 (And.intro @q1 @q2))))))
              refine goB ?_
              first | exact trivial | clear H
              have hrk : refLen (c :: s.drop (i + 1)) = k := hrf.trans hstop.symm
              have H := And.intro @hby (And.intro @w1 (And.intro @wik (And.intro @hbd (And.intro @wk @hk0))))
              refine appB ?_
              first | exact trivial | clear H
              have H := And.intro @hby (And.intro @w1 (And.intro @wik (And.intro @hbd (And.intro @wk @hk0))))
              refine goB ?_
              first | exact trivial | clear H
              obtain ⟨g1, g2, g3⟩ := good_tok hI hA hsp hrk (by omega)
              have et : (s.take (i + k)).drop i = (c :: s.drop (i + 1)).take k := by rw [← hd, List.drop_take, Nat.add_sub_cancel_left]
              refine ⟨(acc ++ [(c :: s.drop (i + 1)).take k], i + k), ⟨?_, g2, by simp only; omega, ?_⟩, by simp only; omega, ⟨?_, rfl⟩, ?_⟩
              · rw [← hd, List.drop_drop] at g1; simpa only [hd] using g1
              · simp only [List.length_append, List.length_cons, List.length_nil]; omega
              · rw [et, List.map_append]; exact .refl _
              · simp only [List.length_append, List.length_cons, List.length_nil]
                have H := And.intro @hby (And.intro @w1 (And.intro @wik (And.intro @hbd (And.intro @wk @hk0))))
                exact cutA
        · have hbd : decide (((i + k : Nat) : Int) < (s.length : Int)) = false := by simp; omega
          have hstop : k = idW (s.drop i) := by rw [hkt, idW_end hb, Nat.add_zero]
          have hk0 : ((k : Int) == 0) = false := beq_eq_false_iff_ne.2 (by omega)
          have H := And.intro @hby (And.intro @w1 (And.intro @wik (And.intro @hbd @hk0)))
          refine goB ?_
          first | exact trivial | clear H
          have hrk : refLen (c :: s.drop (i + 1)) = k := hrf.trans hstop.symm
          have H := And.intro @hby (And.intro @w1 (And.intro @wik (And.intro @hbd @hk0)))
          refine appB ?_
          first | exact trivial | clear H
          have H := And.intro @hby (And.intro @w1 (And.intro @wik (And.intro @hbd @hk0)))
          refine goB ?_
          first | exact trivial | clear H
          obtain ⟨g1, g2, g3⟩ := good_tok hI hA hsp hrk (by omega)
          have et : (s.take (i + k)).drop i = (c :: s.drop (i + 1)).take k := by rw [← hd, List.drop_take, Nat.add_sub_cancel_left]
          refine ⟨(acc ++ [(c :: s.drop (i + 1)).take k], i + k), ⟨?_, g2, by simp only; omega, ?_⟩, by simp only; omega, ⟨?_, rfl⟩, ?_⟩
          · rw [← hd, List.drop_drop] at g1; simpa only [hd] using g1
          · simp only [List.length_append, List.length_cons, List.length_nil]; omega
          · rw [et, List.map_append]; exact .refl _
          · simp only [List.length_append, List.length_cons, List.length_nil]
            have H := And.intro @hby (And.intro @w1 (And.intro @wik (And.intro @hbd @hk0)))
            exact cutA
      | false =>
      cases h1 : ((c.toNat : Int) == 60) with
      | true =>
        have hc60 : c = 60 := eq_of_beq ((u8_eq c 60).symm.trans h1)
        have e97 : lowI (60 : UInt8).toNat = false := by decide
        have wl : IntKind.i64.wrap ((s.length : Int) - (i : Int)) = (s.length : Int) - i := wrap_lt (by omega) (by omega)
        have w3 : IntKind.i64.wrap ((i : Int) + 3) = ((i + 3 : Nat) : Int) := by rw [wrap_lt (by omega) (by omega)]; rfl
        have hpre : pre (c :: s.drop (i + 1)) iffT = ((s.take (i + 3)).drop i == iffT) := by
          unfold pre; rw [← hd, List.drop_take, Nat.add_sub_cancel_left]; rfl
        have hrf : refLen (c :: s.drop (i + 1)) = if pre (c :: s.drop (i + 1)) iffT then 3 else 0 := by
          rw [hc60]; simp only [refLen]; rw [if_neg (by decide), if_pos (by decide)]
        rw [show ([60, 45, 62] : Bs) = iffT from rfl]
        cases hl3 : decide ((3 : Int) ≤ (s.length : Int) - i) with
        | false =>
          have hp : ((s.take (i + 3)).drop i == iffT) = false := beq_eq_false_iff_ne.2 fun e => by
            have := congrArg List.length e
            have h3 := of_decide_eq_false hl3
            simp only [List.length_drop, List.length_take, iffT, List.length_cons, List.length_nil] at this
            omega
          rw [hpre, hp, if_neg Bool.false_ne_true] at hrf
          rw [bad_tok hI hsp hrf]
          have H := And.intro @hby (And.intro @w1 (And.intro @wl (And.intro @w3 (And.intro @hlo (And.intro @h1 @hl3)))))
          refine goB ?_
          first | exact trivial | clear H
          exact ⟨AV.le_tup ⟨AV.le_list' _, .refl _, trivial⟩, cut_none _⟩
        | true =>
          cases hp : ((s.take (i + 3)).drop i == iffT) with
          | false =>
            rw [hpre, hp, if_neg Bool.false_ne_true] at hrf
            rw [bad_tok hI hsp hrf]
            have H := And.intro @hby (And.intro @w1 (And.intro @wl (And.intro @w3 (And.intro @hlo (And.intro @h1 (And.intro @hl3 @hp))))))
            refine goB ?_
            first | exact trivial | clear H
            refine ⟨by have := of_decide_eq_true hl3; omega, ?_⟩
            have H := And.intro @hby (And.intro @w1 (And.intro @wl (And.intro @w3 (And.intro @hlo (And.intro @h1 (And.intro @hl3 @hp))))))
            refine goB ?_
            first | exact trivial | clear H
            exact ⟨AV.le_tup ⟨AV.le_list' _, .refl _, trivial⟩, cut_none _⟩
          | true =>
            rw [hpre, hp, if_pos rfl] at hrf
            have h3 := of_decide_eq_true hl3
            have H := And.intro @hby (And.intro @w1 (And.intro @wl (And.intro @w3 (And.intro @hlo (And.intro @h1 (And.intro @hl3 @hp))))))
            refine goB ?_
            first | exact trivial | clear H
            have H := And.intro @hby (And.intro @w1 (And.intro @wl @w3))
            refine appB ?_
            first | exact trivial | clear H
            have H := And.intro @hby (And.intro @w1 (And.intro @wl @w3))
            refine goB ?_
            first | exact trivial | clear H
            obtain ⟨g1, g2, g3⟩ := good_tok hI hA hsp hrf (by decide)
            have et : (s.take (i + 3)).drop i = (c :: s.drop (i + 1)).take 3 := by rw [← hd, List.drop_take, Nat.add_sub_cancel_left]
            refine ⟨(acc ++ [(c :: s.drop (i + 1)).take 3], i + 3), ⟨?_, g2, by simp only; omega, ?_⟩, by simp only; omega, ⟨?_, rfl⟩, ?_⟩
            · rw [← hd, List.drop_drop] at g1; simpa only [hd] using g1
            · simp only [List.length_append, List.length_cons, List.length_nil]; omega
            · rw [et, List.map_append]; exact .refl _
            · simp only [List.length_append, List.length_cons, List.length_nil]
              have H := And.intro @hby (And.intro @w1 (And.intro @wl @w3))
              exact cutA
      | false =>
      cases h2 : ((c.toNat : Int) == 45) with
      | true =>
        have hc45 : c = 45 := eq_of_beq ((u8_eq c 45).symm.trans h2)
        have e97 : lowI (45 : UInt8).toNat = false := by decide
        have wl : IntKind.i64.wrap ((s.length : Int) - (i : Int)) = (s.length : Int) - i := wrap_lt (by omega) (by omega)
        have w3 : IntKind.i64.wrap ((i : Int) + 2) = ((i + 2 : Nat) : Int) := by rw [wrap_lt (by omega) (by omega)]; rfl
        have hpre : pre (c :: s.drop (i + 1)) impT = ((s.take (i + 2)).drop i == impT) := by
          unfold pre; rw [← hd, List.drop_take, Nat.add_sub_cancel_left]; rfl
        have hrf : refLen (c :: s.drop (i + 1)) = if pre (c :: s.drop (i + 1)) impT then 2 else 0 := by
          rw [hc45]; simp only [refLen]; rw [if_neg (by decide), if_neg (by decide), if_pos (by decide)]
        rw [show ([45, 62] : Bs) = impT from rfl]
        cases hl3 : decide ((2 : Int) ≤ (s.length : Int) - i) with
        | false =>
          have hp : ((s.take (i + 2)).drop i == impT) = false := beq_eq_false_iff_ne.2 fun e => by
            have := congrArg List.length e
            have h3 := of_decide_eq_false hl3
            simp only [List.length_drop, List.length_take, impT, List.length_cons, List.length_nil] at this
            omega
          rw [hpre, hp, if_neg Bool.false_ne_true] at hrf
          rw [bad_tok hI hsp hrf]
          have H := And.intro @hby (And.intro @w1 (And.intro @wl (And.intro @w3 (And.intro @hlo (And.intro @h1 (And.intro @h2 @hl3))))))
          refine goB ?_
          first | exact trivial | clear H
          exact ⟨AV.le_tup ⟨AV.le_list' _, .refl _, trivial⟩, cut_none _⟩
        | true =>
          cases hp : ((s.take (i + 2)).drop i == impT) with
          | false =>
            rw [hpre, hp, if_neg Bool.false_ne_true] at hrf
            rw [bad_tok hI hsp hrf]
            have H := And.intro @hby (And.intro @w1 (And.intro @wl (And.intro @w3 (And.intro @hlo (And.intro @h1 (And.intro @h2 (And.intro @hl3 @hp)))))))
            refine goB ?_
            first | exact trivial | clear H
            refine ⟨by have := of_decide_eq_true hl3; omega, ?_⟩
            have H := And.intro @hby (And.intro @w1 (And.intro @wl (And.intro @w3 (And.intro @hlo (And.intro @h1 (And.intro @h2 (And.intro @hl3 @hp)))))))
            refine goB ?_
            first | exact trivial | clear H
            exact ⟨AV.le_tup ⟨AV.le_list' _, .refl _, trivial⟩, cut_none _⟩
          | true =>
            rw [hpre, hp, if_pos rfl] at hrf
            have h3 := of_decide_eq_true hl3
            have H := And.intro @hby (And.intro @w1 (And.intro @wl (And.intro @w3 (And.intro @hlo (And.intro @h1 (And.intro @h2 (And.intro @hl3 @hp)))))))
            refine goB ?_
            first | exact trivial | clear H
            have H := And.intro @hby (And.intro @w1 (And.intro @wl @w3))
            refine appB ?_
            first | exact trivial | clear H
            have H := And.intro @hby (And.intro @w1 (And.intro @wl @w3))
            refine goB ?_
            first | exact trivial | clear H
            obtain ⟨g1, g2, g3⟩ := good_tok hI hA hsp hrf (by decide)
            have et : (s.take (i + 2)).drop i = (c :: s.drop (i + 1)).take 2 := by rw [← hd, List.drop_take, Nat.add_sub_cancel_left]
            refine ⟨(acc ++ [(c :: s.drop (i + 1)).take 2], i + 2), ⟨?_, g2, by simp only; omega, ?_⟩, by simp only; omega, ⟨?_, rfl⟩, ?_⟩
            · rw [← hd, List.drop_drop] at g1; simpa only [hd] using g1
            · simp only [List.length_append, List.length_cons, List.length_nil]; omega
            · rw [et, List.map_append]; exact .refl _
            · simp only [List.length_append, List.length_cons, List.length_nil]
              have H := And.intro @hby (And.intro @w1 (And.intro @wl @w3))
              exact cutA
      | false =>
        have H := And.intro @hby (And.intro @w1 (And.intro @hlo (And.intro @h1 @h2)))
        refine goB ?_
        first | exact trivial | clear H
        rw [show ([40, 41, 33, 88, 70, 71, 124, 38, 85, 82, 87] : Bs) = setT from rfl]
        have hsz : (tx setT).size = 11 := by kernel_rfl
        refine WK.block ?_
        refine WK.loopX [0, 4, 5, 6, 21] [7] (fun k : Nat => [.int .i64 (if (setT.take k).contains c then 1 else 0)]) (fun k => (Sto.none.add (.tok 1 acc.length)).add (.itr (tx setT) k)) (fun k => k ≤ 11) (fun k => 11 - k) 0 (by decide) (by decide) (by simp only [go_sem, seval, reduceCtorEq]; rfl) rfl ?_
        intro k hk
        simp only [go_sem, seval, reduceCtorEq]
        by_cases hk11 : k < 11
        · have hdec : Utf8.decode (tx setT) k = ((setT.getD k 0).toNat, 1) := dec_set k hk11
          have hkk : decide (k < 11) = true := decide_eq_true hk11
          have wc := wrap_u8 c
          have H := And.intro @hby (And.intro @w1 (And.intro @hsz (And.intro @hdec (And.intro @hk11 @wc))))
          refine goB ?_
          first | exact trivial | clear H
          have hst : (setT.take (k + 1)).contains c = ((setT.take k).contains c || c == setT.getD k 0) := cont_set k hk11 c
          have hce : ((c.toNat : Int) == ((setT.getD k 0).toNat : Int)) = (c == setT.getD k 0) := u8_eq _ _
          cases hq : (c == setT.getD k 0) with
          | true =>
            rw [hq, Bool.or_true] at hst
            rw [hq] at hce
            have H := And.intro @hby (And.intro @w1 (And.intro @hsz (And.intro @hdec (And.intro @hk11 (And.intro @wc @hce)))))
            refine goB ?_
            first | exact trivial | clear H
            refine ⟨k + 1, by omega, by omega, ?_, ?_⟩
            · simp only [hst]; try exact .refl _
            · have H := And.intro @hby (And.intro @w1 (And.intro @hsz (And.intro @hdec (And.intro @hk11 @wc))))
              exact cutA
          | false =>
            rw [hq, Bool.or_false] at hst
            rw [hq] at hce
            have H := And.intro @hby (And.intro @w1 (And.intro @hsz (And.intro @hdec (And.intro @hk11 (And.intro @wc @hce)))))
            refine goB ?_
            first | exact trivial | clear H
            refine ⟨k + 1, by omega, by omega, ?_, ?_⟩
            · simp only [hst]; try exact .refl _
            · have H := And.intro @hby (And.intro @w1 (And.intro @hsz (And.intro @hdec (And.intro @hk11 @wc))))
              exact cutA
        · obtain rfl : k = 11 := by omega
          have htk : setT.take 11 = setT := rfl
          have e60 : (c == 60) = false := (u8_eq c 60).symm.trans h1
          have e45 : (c == 45) = false := (u8_eq c 45).symm.trans h2
          cases hcn : setT.contains c with
          | false =>
            have hr : refLen (c :: s.drop (i + 1)) = 0 := by simp only [refLen, hlo, e60, e45, hcn, Bool.false_eq_true, if_false]
            rw [bad_tok hI hsp hr]
            have H := And.intro @hby (And.intro @w1 (And.intro @hsz (And.intro @htk @hcn)))
            refine goB ?_
            first | exact trivial | clear H
            exact ⟨AV.le_tup ⟨AV.le_list' _, .refl _, trivial⟩, cut_none _⟩
          | true =>
            have hr : refLen (c :: s.drop (i + 1)) = 1 := by simp only [refLen, hlo, e60, e45, hcn, Bool.false_eq_true, if_false, if_true]
            have H := And.intro @hby (And.intro @w1 (And.intro @hsz (And.intro @htk @hcn)))
            refine goB ?_
            first | exact trivial | clear H
            have H := And.intro @hby (And.intro @w1 (And.intro @hsz (And.intro @htk @hcn)))
            refine appB ?_
            first | exact trivial | clear H
            have H := And.intro @hby (And.intro @w1 (And.intro @hsz (And.intro @htk @hcn)))
            refine goB ?_
            first | exact trivial | clear H
            obtain ⟨g1, g2, g3⟩ := good_tok hI hA hsp hr (by decide)
            have et : (s.take (i + 1)).drop i = (c :: s.drop (i + 1)).take 1 := by rw [← hd, List.drop_take, Nat.add_sub_cancel_left]
            refine ⟨(acc ++ [(c :: s.drop (i + 1)).take 1], i + 1), ⟨?_, g2, hil, ?_⟩, by simp only; omega, ⟨?_, rfl⟩, ?_⟩
            · simpa only [List.drop_succ_cons, List.drop_zero] using g1
            · simp only [List.length_append, List.length_cons, List.length_nil]; omega
            · rw [et, List.map_append]; exact .refl _
            · simp only [List.length_append, List.length_cons, List.length_nil]
              have H := And.intro @hby (And.intro @w1 (And.intro @hsz (And.intro @htk @hcn)))
              exact cutA
end
end Go.Sx
