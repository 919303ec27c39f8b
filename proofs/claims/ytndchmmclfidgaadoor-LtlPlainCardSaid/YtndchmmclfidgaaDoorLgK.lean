/- Lg, part K: loops. -/
import Derived.Test.YtndchmmclfidgaaDoorLgJ
set_option linter.unusedVariables false
set_option linter.unusedSimpArgs false
namespace Go.Lg
open Go.RowKit

section
variable {C : Cx} {ro : Option Nat} {nt : Nat} {Q : Exit → Env → Sto → Prop} {env : Env} {σ : Sto}

/-- What a round of a loop comes to. -/
def loopQ (I : Env → Sto → Prop) (Q : Exit → Env → Sto → Prop) : Exit → Env → Sto → Prop
  | .normal => I
  | e => Q e

/-- A loop: an invariant of environment and store, a measure. -/
theorem WK.loopI {k : K} (I : Env → Sto → Prop) (μ : Env → Sto → Nat) (h0 : I env σ)
    (round : ∀ env σ, I env σ → WK C ro nt k (loopQ (fun env' σ' => I env' σ' ∧ μ env' σ' < μ env σ) Q) env σ) : WK C ro nt (.loop k) Q env σ := by
  intro d hd
  cases d with
  | loop a =>
    simp only [toK, K.loop.injEq] at hd
    refine W.loop I μ h0 fun env σ h => (round env σ h a hd).mono fun e env' σ' hq => ?_
    cases e with
    | normal => exact .inl ⟨rfl, hq⟩
    | _ => exact .inr ⟨(by intro h; cases h), hq⟩
  | region id ops d => cases d <;> cases hd
  | _ => cases hd

theorem wrap_lt {n : Int} (h0 : -9223372036854775808 ≤ n) (h1 : n ≤ 9223372036854775807) : IntKind.i64.wrap n = n := IntWalk.i64_in _ ⟨h0, h1⟩

/-- What the body of a ranging loop comes to; B: the loop's block, B2: the body's. -/
def stepQ (B B2 : Nat) (I : Env → Sto → Prop) (Q : Exit → Env → Sto → Prop) : Exit → Env → Sto → Prop
  | .normal => I
  | .exit id => if id = B2 then I else Q (inBlk B (.exit id))
  | e => Q e

/-- 'for i, x := range xs': the counter runs from 0 to n. What the invariant says of environments doesn't hang on the three temporaries tc, tn, ti. -/
theorem WK.range {B B2 tc ti tl tn t1 t2 t3 t4 : Nat} {inner : K} (n : Nat) (hn : n < 9223372036854775807) (I : Nat → Env → Sto → Prop)
    (hb : tc < nt ∧ ti < nt ∧ tl < nt ∧ tn < nt ∧ ti ≠ tc ∧ tl ≠ tc ∧ ti ≠ tn ∧ tl ≠ tn ∧ tl ≠ ti)
    (hi : env ti = .int .i64 0) (hl : env tl = .int .i64 n) (h0 : I 0 env σ)
    (hfix : ∀ i env σ v t, t = tc ∨ t = tn ∨ t = ti → I i env σ → I i (upd env t v) σ)
    (step : ∀ i env σ, i < n → I i env σ → env ti = .int .i64 i → env tl = .int .i64 n →
      WK C ro nt inner (stepQ B B2 (fun env' σ' => env' ti = .int .i64 i ∧ env' tl = .int .i64 n ∧ I (i + 1) env' σ') Q) env σ)
    (done : ∀ env σ, I n env σ → env ti = .int .i64 n → env tl = .int .i64 n → Q .normal env σ) :
    WK C ro nt (.block B (.loop (.seq (.reg [⟨some tc, .binOp .lss t1 (.tmp ti) (.tmp tl) t2, none⟩])
      (.seq (.cond (.tmp tc) .skip (.exit B)) (.seq (.block B2 inner) (.reg [⟨some tn, .binOp .add t3 (.tmp ti) (.const (.int .i64 1)) t4, none⟩, ⟨some ti, .move (.tmp tn), none⟩])))))) Q env σ := by
  obtain ⟨b1, b2, b3, b4, d1, d2, d3, d4, d5⟩ := hb
  refine WK.block ?_
  refine WK.loopI (fun env σ => ∃ i : Nat, i ≤ n ∧ I i env σ ∧ env ti = .int .i64 i ∧ env tl = .int .i64 n) (fun env _ => n - (env ti).theI.toNat) ⟨0, Nat.zero_le _, h0, hi, hl⟩ ?_
  rintro env σ ⟨i, hin, hI, hi, hl⟩
  have r1 : isCall (.binOp .lss t1 (.tmp ti) (.tmp tl) t2) = false := rfl
  refine WK.seq (WK.reg ?_)
  rw [wpr_op rfl]
  simp only [aop, ev, b2, b3, if_true, hi, hl, binA, aInt, wpr_nil, putA, true_and, andK_normal]
  refine WK.seq ?_
  refine WK.cond (decide ((i : Int) < (n : Int))) (by simp [ev, b1, upd]) (fun ht => ?_) (fun hf => ?_)
  · have hlt : i < n := by simpa using ht
    refine WK.skip ?_
    simp only [andK_normal]
    refine WK.seq (WK.block ?_)
    have hI' := hfix i env σ (.bool (decide ((i : Int) < (n : Int)))) tc (.inl rfl) hI
    refine (step i _ σ hlt hI' (by simp [upd, d1, hi]) (by simp [upd, d2, hl])).mono ?_
    have fin : ∀ env' σ', env' ti = .int .i64 i ∧ env' tl = .int .i64 n ∧ I (i + 1) env' σ' → WK C ro nt (.reg [⟨some tn, .binOp .add t3 (.tmp ti) (.const (.int .i64 1)) t4, none⟩, ⟨some ti, .move (.tmp tn), none⟩])
        (loopQ (fun env'' σ'' => (∃ i : Nat, i ≤ n ∧ I i env'' σ'' ∧ env'' ti = .int .i64 i ∧ env'' tl = .int .i64 n) ∧ n - (env'' ti).theI.toNat < n - (AV.int .i64 (i : Int)).theI.toNat) (fun e => Q (inBlk B e))) env' σ' := by
      rintro env' σ' ⟨h1, h2, h3⟩
      refine WK.reg ?_
      rw [wpr_op rfl]
      simp only [aop, ev, b2, if_true, h1, ofV, ofV1, binA, aInt, putA, true_and]
      rw [wpr_op rfl]
      simp only [aop, ev, b4, if_true, wpr_nil, putA, true_and]
      have hw : IntKind.i64.wrap ((i : Int) + 1) = ((i + 1 : Nat) : Int) := by rw [wrap_lt (by omega) (by omega)]; rfl
      rw [hw]
      refine ⟨⟨i + 1, hlt, ?_, by simp [upd], by simp [upd, d4, d5, h2]⟩, ?_⟩
      · exact hfix _ _ _ _ ti (.inr (.inr rfl)) (hfix _ _ _ _ tn (.inr (.inl rfl)) h3)
      · simp only [upd, if_true, AV.theI, hi]
        omega
    rintro e env' σ' hq
    cases e with
    | normal => exact fin _ _ hq
    | exit id =>
      simp only [stepQ] at hq
      by_cases he : id = B2
      · rw [if_pos he] at hq
        rw [show inBlk B2 (.exit id) = .normal from if_pos he]
        exact fin _ _ hq
      · rw [if_neg he] at hq
        rw [show inBlk B2 (.exit id) = .exit id from if_neg he]
        exact hq
    | _ => exact hq
  · have hge : i = n := by
      have : ¬ ((i : Int) < (n : Int)) := by simpa using hf
      omega
    subst hge
    refine WK.exit ?_
    simp only [andK_exit]
    simp only [loopQ, inBlk, if_true]
    exact done _ _ (hfix _ _ _ _ tc (.inl rfl) hI) (by simp [upd, d1, hi]) (by simp [upd, d2, hl])
end

section
variable {I : Env → Sto → Prop} {Q : Exit → Env → Sto → Prop} {B B2 id : Nat}
theorem loopQ_normal : loopQ I Q .normal = I := (rfl)
theorem loopQ_exit : loopQ I Q (.exit id) = Q (.exit id) := (rfl)
theorem loopQ_ret : loopQ I Q .ret = Q .ret := (rfl)
theorem stepQ_normal : stepQ B B2 I Q .normal = I := (rfl)
theorem stepQ_exit : stepQ B B2 I Q (.exit id) = if id = B2 then I else Q (inBlk B (.exit id)) := (rfl)
theorem stepQ_ret : stepQ B B2 I Q .ret = Q .ret := (rfl)
end
attribute [go_sem] loopQ_normal loopQ_exit loopQ_ret stepQ_normal stepQ_exit stepQ_ret
end Go.Lg
