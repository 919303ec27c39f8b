import Derived.Test.YtndchmmclfidgaaDoorLgAw
import Derived.Test.YtndchmmclfidgaaDoorGxC
set_option maxRecDepth 100000
set_option linter.unusedSimpArgs false
set_option linter.unusedVariables false
set_option linter.unnecessarySimpa false
namespace Go.Sx
open Go Go.Lg Go.Proofs
theorem b140 {gl : GL} : Body (C gl).P 140 Tryd.f140 (codeOf Tryd.f140) := ⟨Tryd.func140, by kernel_rfl, by kernel_rfl⟩
theorem b77 {gl : GL} : Body (C gl).P 77 Tryd.f77 (codeOf Tryd.f77) := ⟨Tryd.func77, by kernel_rfl, by kernel_rfl⟩
theorem b19 {gl : GL} : Body (C gl).P 19 Tryd.f19 (codeOf Tryd.f19) := ⟨Tryd.func19, by kernel_rfl, by kernel_rfl⟩
def firstB (c : Ct) (a i : Nat) (z : BitVec 64) : Nat → BitVec 64
  | 0 => 0#64
  | o + 1 => if (z.getLsbD (i + o * 2 ^ a) && holdsF ((i + o * 2 ^ a : Nat) : Int) 0 c.is) = true then firstB c a i z o ||| (1#64 <<< (i + o * 2 ^ a)) else firstB c a i z o
def firstR (c : Ct) (a b i : Nat) (z : BitVec 64) : BitVec 64 × Bool := if holdsF i 0 c.ie = true then (firstB c a i z (2 ^ b), false) else (0#64, true)
def keptB (c : Ct) (a b : Nat) (z : BitVec 64) : Bool := (List.range (2 ^ a)).all fun i => (firstR c a b i z).2 || !((firstR c a b i z).1 == 0#64)
section
variable {gl : GL}
theorem first_ok (tid : Nat) (t : Tb) (a b i : Nat) (z : BitVec 64) (σ : Sto) (hc : CtOK t.c a b) (hi : i < 2 ^ a) (ht : σ.get tid = some (.box (tbCells t))) :
    CallX (C gl) 140 [.ptr tid 0, .int .i64 i, .int .u64 (uB z)] σ (.tup [.int .u64 (uB (firstR t.c a b i z).1), .bool (firstR t.c a b i z).2]) σ := by
  refine callX_of b140 (by simp [Tryd.ntmps140]) ?_
  have p1 := pow2_le 3 hc.a3
  have p2 := pow2_le 3 hc.b3
  have hin := hc.inn
  have hout := hc.out
  have q1 := shl_one b (by have := hc.b3; omega)
  refine W.of ?_
  rw [Tryd.ntmps140]
  simp only [toK, codeOf, Tryd.f140, go_sem, seval, reduceCtorEq]
  have H := And.intro @ht (And.intro @hin (And.intro @hout (And.intro @q1 @tbCells.eq_1)))
  refine goB ?_
  first | exact trivial | clear H | skip
  refine callK_pureL (holds_ok (gl := gl) i 0 t.c.ie hc.ie) rfl ?_ ?_ ?_ <;> simp only [go_sem, seval, reduceCtorEq, ht, hin, hout, q1, encF_eq]
  refine WK.cond _ (by simp only [go_sem, seval, reduceCtorEq, ht, hin, hout, q1]; rfl) (fun h => ?_) (fun h => ?_)
  · have h' : holdsF i 0 t.c.ie = false := by simpa using h
    have H := And.intro @ht (And.intro @hin (And.intro @hout (And.intro @q1 (And.intro @firstR.eq_1 (And.intro @h' @uB_zero)))))
    refine goB ?_
    first | exact trivial | clear H | skip
  · have h' : holdsF i 0 t.c.ie = true := by simpa using h
    have H := And.intro @ht (And.intro @hin (And.intro @hout (And.intro @q1 @tbCells.eq_1)))
    refine goB ?_
    first | exact trivial | clear H | skip
    refine WK.rangeX ((2 ^ b)) [0, 1, 2] [6] (fun o => [.int .u64 (uB (firstB t.c a i z o))]) (fun o => σ) (by omega) (by decide) (by simp only [go_sem, seval, reduceCtorEq, ht, hin, hout, q1, firstB, uB_zero]) (by simp only [go_sem, seval, reduceCtorEq, ht, hin, hout, q1, firstB, uB_zero]) (by simp only [go_sem, seval, reduceCtorEq, ht, hin, hout, q1, firstB, uB_zero, List.take_zero]) (by first | rfl | (simp only [go_sem, seval, reduceCtorEq, ht, hin, hout, q1, firstB, uB_zero]; done) | (refine Sto.ext' (by simp only [go_sem, seval, reduceCtorEq, ht, hin, hout, q1, firstB, uB_zero]) (fun i => ?_); simp only [go_sem, seval, reduceCtorEq, ht, hin, hout, q1, firstB, uB_zero]; repeat' split; all_goals (first | rfl | omega | simp_all))) ?_ ?_
    · intro o ho
      simp only [go_sem, seval, reduceCtorEq, ht, hin, hout, q1]
      have hm : o * 2 ^ a ≤ 8 * 8 := Nat.mul_le_mul (by omega) (by omega)
      have r1 := shl_mul o a (by omega) (by have := hc.a3; omega)
      have r2 := wrap_add_nat i (o * 2 ^ a) (by omega)
      cases hb : z.getLsbD (i + o * 2 ^ a) with
      | true =>
        have H := And.intro @ht (And.intro @hin (And.intro @hout (And.intro @q1 (And.intro @r1 (And.intro @r2 (And.intro @tbCells.eq_1 @hb))))))
        refine goB ?_
        first | exact trivial | clear H | skip
        refine callK_pureL (holds_ok (gl := gl) (i + o * 2 ^ a : Nat) 0 t.c.is hc.is) rfl ?_ ?_ ?_ <;> simp only [go_sem, seval, reduceCtorEq, ht, hin, hout, q1, r1, r2, encF_eq]
        have H := And.intro @ht (And.intro @hin (And.intro @hout (And.intro @q1 (And.intro @r1 @r2))))
        refine goB ?_
        first | exact trivial | clear H | skip
        refine WK.cond _ (by simp only [go_sem, seval, reduceCtorEq, ht, hin, hout, q1, r1, r2]; rfl) (fun h2 => ?_) (fun h2 => ?_)
        · have H := And.intro @ht (And.intro @hin (And.intro @hout (And.intro @q1 (And.intro @r1 (And.intro @r2 (And.intro @firstB.eq_1 (And.intro @firstB.eq_2 (And.intro @hb @h2))))))))
          refine goB ?_
          first | exact trivial | clear H | skip
        · have H := And.intro @ht (And.intro @hin (And.intro @hout (And.intro @q1 (And.intro @r1 (And.intro @r2 (And.intro @firstB.eq_1 (And.intro @firstB.eq_2 (And.intro @hb @h2))))))))
          refine goB ?_
          first | exact trivial | clear H | skip
      | false =>
        have H := And.intro @ht (And.intro @hin (And.intro @hout (And.intro @q1 (And.intro @r1 (And.intro @r2 (And.intro @tbCells.eq_1 (And.intro @hb (And.intro @firstB.eq_1 @firstB.eq_2))))))))
        refine goB ?_
        first | exact trivial | clear H | skip
    · simp only [go_sem, seval, reduceCtorEq, ht, hin, hout, q1]
      have H := And.intro @ht (And.intro @hin (And.intro @hout (And.intro @q1 (And.intro @firstR.eq_1 @h'))))
      refine goB ?_
      first | exact trivial | clear H | skip
theorem kept_ok (tid : Nat) (t : Tb) (a b : Nat) (z : BitVec 64) (σ : Sto) (hc : CtOK t.c a b) (ht : σ.get tid = some (.box (tbCells t))) :
    CallX (C gl) 77 [.ptr tid 0, .int .u64 (uB z)] σ (.bool (keptB t.c a b z)) σ := by
  refine callX_of b77 (by simp [Tryd.ntmps77]) ?_
  have p1 := pow2_le 3 hc.a3
  have hin := hc.inn
  have q1 := shl_one a (by have := hc.a3; omega)
  refine W.of ?_
  rw [Tryd.ntmps77]
  simp only [toK, codeOf, Tryd.f77, go_sem, seval, reduceCtorEq]
  have H := And.intro @ht (And.intro @hin (And.intro @q1 @tbCells.eq_1))
  refine goB ?_
  first | exact trivial | clear H | skip
  refine WK.rangeI ((2 ^ a)) [0, 1] [] (fun i => []) (fun i => σ) (fun i => ∀ j < i, ((firstR t.c a b j z).2 || !((firstR t.c a b j z).1 == 0#64)) = true) (by simp) (by omega) (by decide) (by simp only [go_sem, seval, reduceCtorEq, ht, hin, q1]) (by simp only [go_sem, seval, reduceCtorEq, ht, hin, q1]) (by simp only [go_sem, seval, reduceCtorEq, ht, hin, q1, List.take_zero]) (by first | rfl | (simp only [go_sem, seval, reduceCtorEq, ht, hin, q1]; done) | (refine Sto.ext' (by simp only [go_sem, seval, reduceCtorEq, ht, hin, q1]) (fun i => ?_); simp only [go_sem, seval, reduceCtorEq, ht, hin, q1]; repeat' split; all_goals (first | rfl | omega | simp_all))) ?_ ?_
  · intro i hi hI
    simp only [go_sem, seval, reduceCtorEq, ht, hin, q1]
    have H := And.intro @ht (And.intro @hin @q1)
    refine goB ?_
    first | exact trivial | clear H | skip
    refine callK_x0 (first_ok tid t a b i z σ hc hi ht) rfl ?_ ?_ ?_ <;> simp only [go_sem, seval, reduceCtorEq, ht, hin, q1]
    have H := And.intro @ht (And.intro @hin @q1)
    refine goB ?_
    first | exact trivial | clear H | skip
    cases hf : (firstR t.c a b i z).2 with
    | true =>
      have H := And.intro @ht (And.intro @hin (And.intro @q1 @hf))
      refine goB ?_
      first | exact trivial | clear H | skip
      intro j hj
      rcases Nat.lt_succ_iff_lt_or_eq.1 hj with h | rfl
      · exact hI j h
      · simp [hf]
    | false =>
      have H := And.intro @ht (And.intro @hin (And.intro @q1 @hf))
      refine goB ?_
      first | exact trivial | clear H | skip
      refine WK.cond _ (by simp only [go_sem, seval, reduceCtorEq, ht, hin, q1]; rfl) (fun h2 => ?_) (fun h2 => ?_)
      · have H := And.intro @ht (And.intro @hin @q1)
        refine goB ?_
        first | exact trivial | clear H | skip
        refine (Bool.eq_false_iff.2 fun hk => ?_).symm
        have := List.all_eq_true.1 hk i (List.mem_range.2 hi)
        simp [hf, h2] at this
      · have H := And.intro @ht (And.intro @hin @q1)
        refine goB ?_
        first | exact trivial | clear H | skip
        intro j hj
        rcases Nat.lt_succ_iff_lt_or_eq.1 hj with h | rfl
        · exact hI j h
        · simp [hf, h2]
  · intro hI
    simp only [go_sem, seval, reduceCtorEq, ht, hin, q1]
    have H := And.intro @ht (And.intro @hin @q1)
    refine goB ?_
    first | exact trivial | clear H | skip
    exact (List.all_eq_true.2 fun j hj => hI j (List.mem_range.1 hj)).symm
end
end Go.Sx
