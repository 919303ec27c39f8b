import Derived.Test.YtndchmmclfidgaaDoorTlC
import Derived.Test.YtndchmmclfidgaaDoorLgAw
set_option maxRecDepth 100000
set_option linter.unusedSimpArgs false
set_option linter.unusedVariables false
set_option linter.unnecessarySimpa false
namespace Go.Sx
open Go Go.Lg Go.Proofs
/-! ## The parser where it fails -/
/-- What is left where it fails. -/
def errF (ns : List Bs) : Nat → Md → List Bs → List Bs
  | 0, _, l => l
  | _ + 1, .pre, [] => []
  | n + 1, .pre, t :: r =>
    if t == [] then t :: r
    else if t == [40] then
      match parF ns n (.bin 1) r with
      | none => errF ns n (.bin 1) r
      | some (_, l1) => if nowS l1 == [] then l1 else l1.drop 1
    else if opPre t then errF ns n .pre r
    else r
  | n + 1, .bin least, l =>
    match parF ns n .pre l with
    | none => errF ns n .pre l
    | some (f, l') => errF ns n (.loop least f) l'
  | n + 1, .loop least f, l =>
    match parF ns n (.bin (nxt (opS (nowS l)))) (l.drop 1) with
    | none => errF ns n (.bin (nxt (opS (nowS l)))) (l.drop 1)
    | some (g, l') => errF ns n (.loop least (.mk (opS (nowS l)) 0 [f, g])) l'
section
variable {gl : GL}
theorem bl129 : bldE (C gl) 129 = some ([], fun _ => none) := by
  refine bldE_of (by kernel_rfl) ?_
  intro i
  show (bldE (C gl) 129).map (fun p => p.2 i) = some none; kernel_rfl
theorem ni129 : (∀ ms : Array (String × TypeId), ¬(tX 129).desc = TypeDesc.interface ms) = True := eq_true fun ms h => by
  have e : (tX 129).desc = .struct #[] := by kernel_rfl
  rw [e] at h; cases h
attribute [go_sem] bl129 ni129 pbox
theorem panR_x0 {C : Cx} {nt : Nat} {d : Option Nat} {cl : Call} {K : List PanicEntry → Sto → Prop} {env : Env} {σ σ1 : Sto} {f : Operand} {g : FuncId} {args : List AV} {ch : List PanicEntry} (h : CallE C g args σ ch σ1)
    (hc : cl.callee = .value f) (hf : ev C nt env f = .fn g []) (ha : cl.args.toList.map (ev C nt env) = args) (hk : K ch σ1) : panR C nt (some ⟨d, .call cl, none⟩) K env σ :=
  panR_x (caps := []) (by rw [List.append_nil]; exact h) hc hf ha hk
theorem step_err (id : Nat) (ns l : List Bs) (ht : (nowS l == []) = true) (σ : Sto) (hl : id < σ.next) (h : σ.get id = some (pbox ns l)) : CallE (C gl) 160 [.ptr id 0] σ (panE 129) (σ.set id (pbox ns l)) := by
  refine calle_of b160 (by simp [Tryd.ntmps160]) ?_
  refine W.of ?_
  rw [Tryd.ntmps160]
  simp only [toK, codeOf, Tryd.f160, go_sem, seval, reduceCtorEq]
  have H := @h
  refine rB ?_
  first | exact trivial | clear H
  have H := @h
  refine rB ?_
  first | exact trivial | clear H
  refine callK_x0 (now_ok (gl := gl) id ns l σ h) rfl ?_ ?_ ?_ <;> simp only [go_sem, seval, reduceCtorEq, h]
  have H := And.intro @h @ht
  refine rB ?_
  first | exact trivial | clear H
  have H := And.intro @h @ht
  refine ngB ?_
  first | exact trivial | clear H
  refine WK.regP 2 ?_
  simp only [List.take_succ_cons, List.take_zero, List.getElem?_cons_succ, List.getElem?_cons_zero, go_sem, seval, reduceCtorEq, h]
  refine panR_p (t := 129) ?_ ?_ <;> simp only [go_sem, seval, reduceCtorEq]
  refine fun _ => ?_
  have e : σ = σ.set id (pbox ns l) := by
    refine Sto.ext' rfl fun i => ?_
    rw [Sto.get_set]
    split
    · rename_i e; rw [e, h]
    · rfl
  simp only [pbox] at e ⊢
  rw [← e]
  exact .refl _
def PreE (gl : GL) (n : Nat) : Prop := ∀ (id : Nat) (ns l : List Bs) (σ : Sto), parF ns n .pre l = none → need .pre l.length ≤ n → ns.length < 1000000 → id < σ.next → σ.get id = some (pbox ns l) →
  CallE (C gl) 157 [.ptr id 0] σ (panE 129) (σ.set id (pbox ns (errF ns n .pre l)))
def BinE (gl : GL) (n : Nat) : Prop := ∀ (id : Nat) (ns l : List Bs) (least : Int) (σ : Sto), parF ns n (.bin least) l = none → need (.bin least) l.length ≤ n → ns.length < 1000000 → id < σ.next → σ.get id = some (pbox ns l) →
  CallE (C gl) 97 [.ptr id 0, .int .i64 least] σ (panE 129) (σ.set id (pbox ns (errF ns n (.bin least) l)))
theorem prefix_err (hsg : gl.at' 3 = signsA) {n : Nat} (hp : PreE gl n) (hbn : BinE gl n) (hbo : BinOK gl n) : PreE gl (n + 1) := by
  intro id ns l σ h hne hns hl hg
  have nz_id : (id = σ.next) = False := by simp; omega
  have nx_id : ∀ j, (id = σ.next + j) = False := fun j => by simp; omega
  cases l with
  | nil =>
    refine calle_of b157 (by simp [Tryd.ntmps157]) ?_
    refine W.of ?_
    rw [Tryd.ntmps157]
    simp only [toK, codeOf, Tryd.f157, go_sem, seval, reduceCtorEq]
    have H := And.intro @nz_id (And.intro @nx_id @hg)
    refine rB ?_
    first | exact trivial | clear H
    have H := And.intro @nz_id (And.intro @nx_id @hg)
    refine ngB ?_
    first | exact trivial | clear H
    refine WK.regP 1 ?_
    simp only [List.take_succ_cons, List.take_zero, List.getElem?_cons_succ, List.getElem?_cons_zero, go_sem, seval, reduceCtorEq, nz_id, nx_id, hg, pbox]
    refine panR_x0 (step_err (gl := gl) id ns [] (by rfl) _ ltsA (by simp only [go_sem, seval, reduceCtorEq, nz_id, nx_id, hg, pbox]; first | done | omega)) rfl ?_ ?_ ?_ <;> simp only [go_sem, seval, reduceCtorEq]
    refine fun _ => ?_
    have e : errF ns (n + 1) .pre [] = [] := rfl
    rw [e]
    have H := And.intro @nz_id (And.intro @nx_id @hg)
    exact cutA
  | cons t r =>
  simp only [need, List.length_cons] at hne
  refine calle_of b157 (by simp [Tryd.ntmps157]) ?_
  refine W.of ?_
  rw [Tryd.ntmps157]
  simp only [toK, codeOf, Tryd.f157, go_sem, seval, reduceCtorEq]
  rw [show ([116, 114, 117, 101] : Bs) = trueT from rfl, show ([102, 97, 108, 115, 101] : Bs) = falseT from rfl]
  have H := And.intro @nz_id (And.intro @nx_id @hg)
  refine rB ?_
  first | exact trivial | clear H
  have H := And.intro @nz_id (And.intro @nx_id @hg)
  refine ngB ?_
  first | exact trivial | clear H
  cases h0 : (t == []) with
  | true =>
    refine WK.regP 1 ?_
    simp only [List.take_succ_cons, List.take_zero, List.getElem?_cons_succ, List.getElem?_cons_zero, go_sem, seval, reduceCtorEq, nz_id, nx_id, hg, pbox]
    refine panR_x0 (step_err (gl := gl) id ns (t :: r) h0 _ ltsA (by simp only [go_sem, seval, reduceCtorEq, nz_id, nx_id, hg, pbox]; first | done | omega)) rfl ?_ ?_ ?_ <;> simp only [go_sem, seval, reduceCtorEq]
    refine fun _ => ?_
    have e : errF ns (n + 1) .pre (t :: r) = t :: r := by simp only [errF, h0, if_true]
    rw [e]
    clear e h h0
    simp only [pbox] at hg ⊢
    have H := And.intro @nz_id (And.intro @nx_id @hg)
    exact cutA
  | false =>
  have H := And.intro @nz_id (And.intro @nx_id @hg)
  refine rB ?_
  first | exact trivial | clear H
  refine callK_x0 (step_ok (gl := gl) id ns t r h0 _ ltsA (by simp only [go_sem, seval, reduceCtorEq, nz_id, nx_id, hg, pbox]; first | done | omega)) rfl ?_ ?_ ?_ <;> simp only [go_sem, seval, reduceCtorEq, nz_id, nx_id, hg, pbox]
  have H := And.intro @nz_id (And.intro @nx_id @hg)
  refine rB ?_
  first | exact trivial | clear H
  have H := And.intro @nz_id (And.intro @nx_id @hg)
  refine rB ?_
  first | exact trivial | clear H
  cases h1 : (t == [40]) with
  | true =>
    have H := And.intro @nz_id (And.intro @nx_id @hg)
    refine ngB ?_
    first | exact trivial | clear H
    cases e : parF ns n (.bin 1) r with
    | none =>
      refine WK.regP 1 ?_
      simp only [List.take_succ_cons, List.take_zero, List.getElem?_cons_succ, List.getElem?_cons_zero, go_sem, seval, reduceCtorEq, nz_id, nx_id, hg, pbox]
      refine panR_x0 (hbn id ns r 1 _ e (by simp only [need]; omega) hns ltsA (by simp only [go_sem, seval, reduceCtorEq, nz_id, nx_id, hg, pbox]; first | done | omega)) rfl ?_ ?_ ?_ <;> simp only [go_sem, seval, reduceCtorEq]
      refine fun _ => ?_
      have e2 : errF ns (n + 1) .pre (t :: r) = errF ns n (.bin 1) r := by simp only [errF, h0, h1, e, if_true, Bool.false_eq_true, if_false]
      rw [e2]
      have H := And.intro @nz_id (And.intro @nx_id @hg)
      exact cutA
    | some p =>
    obtain ⟨f1, l1⟩ := p
    have H := And.intro @nz_id (And.intro @nx_id @hg)
    refine rB ?_
    first | exact trivial | clear H
    refine callK_x0 (hbo id ns r l1 1 f1 _ e hns ltsA (by simp only [go_sem, seval, reduceCtorEq, nz_id, nx_id, hg, pbox]; first | done | omega)) rfl ?_ ?_ ?_ <;> simp only [go_sem, seval, reduceCtorEq, nz_id, nx_id, hg, pbox, encF_eq]
    cases hz : (nowS l1 == []) with
    | true =>
      have e2 : errF ns (n + 1) .pre (t :: r) = l1 := by simp only [errF, h0, h1, e, hz, if_true, Bool.false_eq_true, if_false]
      have H := And.intro @nz_id (And.intro @nx_id @hg)
      refine ngB ?_
      first | exact trivial | clear H
      refine WK.regP 1 ?_
      simp only [List.take_succ_cons, List.take_zero, List.getElem?_cons_succ, List.getElem?_cons_zero, go_sem, seval, reduceCtorEq, nz_id, nx_id, hg, pbox]
      refine panR_x0 (step_err (gl := gl) id ns l1 hz _ ltsA (by simp only [go_sem, seval, reduceCtorEq, nz_id, nx_id, hg, pbox]; first | done | omega)) rfl ?_ ?_ ?_ <;> simp only [go_sem, seval, reduceCtorEq]
      refine fun _ => ?_
      rw [e2]
      have H := And.intro @nz_id (And.intro @nx_id @hg)
      exact cutA
    | false =>
      have e2 : errF ns (n + 1) .pre (t :: r) = l1.drop 1 := by simp only [errF, h0, h1, e, hz, if_true, Bool.false_eq_true, if_false]
      cases l1 with
      | nil => cases hz
      | cons u l2 =>
      have hz : (u == []) = false := hz
      have hu : (u == [41]) = false := by
        cases hu : (u == [41]) with
        | false => rfl
        | true => simp only [parF, h0, h1, e, hu, Bool.false_eq_true, if_false, if_true] at h; cases h
      have H := And.intro @nz_id (And.intro @nx_id @hg)
      refine rB ?_
      first | exact trivial | clear H
      refine callK_x0 (step_ok (gl := gl) id ns u l2 hz _ ltsA (by simp only [go_sem, seval, reduceCtorEq, nz_id, nx_id, hg, pbox]; first | done | omega)) rfl ?_ ?_ ?_ <;> simp only [go_sem, seval, reduceCtorEq, nz_id, nx_id, hg, pbox]
      simp only [go_sem, seval, reduceCtorEq, nz_id, nx_id, hg, pbox, hu, bne]
      have H := And.intro @nz_id (And.intro @nx_id (And.intro @hg @hu))
      refine ngB ?_
      first | exact trivial | clear H
      refine WK.regP 2 ?_
      simp only [List.take_succ_cons, List.take_zero, List.getElem?_cons_succ, List.getElem?_cons_zero, go_sem, seval, reduceCtorEq, nz_id, nx_id, hg, pbox]
      refine panR_p (t := 129) ?_ ?_ <;> simp only [go_sem, seval, reduceCtorEq]
      refine fun _ => ?_
      rw [e2, List.drop_succ_cons, List.drop_zero]
      have H := And.intro @nz_id (And.intro @nx_id @hg)
      exact cutA
  | false =>
  cases h2 : (t == trueT) with
  | true => simp only [parF, h0, h1, h2, Bool.false_eq_true, if_false, if_true] at h; cases h
  | false =>
  cases h3 : (t == falseT) with
  | true => simp only [parF, h0, h1, h2, h3, Bool.false_eq_true, if_false, if_true] at h; cases h
  | false =>
  cases h4 : opPre t with
  | true =>
    have e2 : errF ns (n + 1) .pre (t :: r) = errF ns n .pre r := by simp only [errF, h0, h1, h4, if_true, Bool.false_eq_true, if_false]
    have e : parF ns n .pre r = none := by
      cases e : parF ns n .pre r with
      | none => rfl
      | some p => simp only [parF, h0, h1, h2, h3, h4, e, Bool.false_eq_true, if_false, if_true] at h; cases h
    cases k1 : (t == [33]) with
    | true =>
      have H := And.intro @nz_id (And.intro @nx_id @hg)
      refine ngB ?_
      first | exact trivial | clear H
      have H := And.intro @nz_id (And.intro @nx_id (And.intro @hg (And.intro @h2 (And.intro @h3 @k1))))
      refine rB ?_
      first | exact trivial | clear H
      have H := And.intro @nz_id (And.intro @nx_id (And.intro @hg (And.intro @h2 (And.intro @h3 @k1))))
      refine rB ?_
      first | exact trivial | clear H
      have H := And.intro @nz_id (And.intro @nx_id (And.intro @hg (And.intro @h2 (And.intro @h3 @k1))))
      refine rB ?_
      first | exact trivial | clear H
      have H := And.intro @nz_id (And.intro @nx_id (And.intro @hg (And.intro @h2 (And.intro @h3 @k1))))
      refine rB ?_
      first | exact trivial | clear H
      have H := And.intro @nz_id (And.intro @nx_id (And.intro @hg (And.intro @h2 (And.intro @h3 @k1))))
      refine ngB ?_
      first | exact trivial | clear H
      refine WK.regP 3 ?_
      simp only [List.take_succ_cons, List.take_zero, List.getElem?_cons_succ, List.getElem?_cons_zero, go_sem, seval, reduceCtorEq, nz_id, nx_id, hg, pbox]
      refine callK_pureL (operator_ok hsg t) rfl ?_ ?_ ?_ <;> simp only [go_sem, seval, reduceCtorEq, nz_id, nx_id, hg, pbox]
      refine panR_x0 (hp id ns r _ e (by simp only [need]; omega) hns ltsA (by simp only [go_sem, seval, reduceCtorEq, nz_id, nx_id, hg, pbox]; first | done | omega)) rfl ?_ ?_ ?_ <;> simp only [go_sem, seval, reduceCtorEq]
      refine fun _ => ?_
      rw [e2]
      have H := And.intro @nz_id (And.intro @nx_id @hg)
      exact cutA
    | false =>
    cases k2 : (t == [88]) with
    | true =>
      have H := And.intro @nz_id (And.intro @nx_id @hg)
      refine ngB ?_
      first | exact trivial | clear H
      have H := And.intro @nz_id (And.intro @nx_id (And.intro @hg (And.intro @h2 (And.intro @h3 (And.intro @k1 @k2)))))
      refine rB ?_
      first | exact trivial | clear H
      have H := And.intro @nz_id (And.intro @nx_id (And.intro @hg (And.intro @h2 (And.intro @h3 (And.intro @k1 @k2)))))
      refine rB ?_
      first | exact trivial | clear H
      have H := And.intro @nz_id (And.intro @nx_id (And.intro @hg (And.intro @h2 (And.intro @h3 (And.intro @k1 @k2)))))
      refine rB ?_
      first | exact trivial | clear H
      have H := And.intro @nz_id (And.intro @nx_id (And.intro @hg (And.intro @h2 (And.intro @h3 (And.intro @k1 @k2)))))
      refine rB ?_
      first | exact trivial | clear H
      have H := And.intro @nz_id (And.intro @nx_id (And.intro @hg (And.intro @h2 (And.intro @h3 (And.intro @k1 @k2)))))
      refine rB ?_
      first | exact trivial | clear H
      have H := And.intro @nz_id (And.intro @nx_id (And.intro @hg (And.intro @h2 (And.intro @h3 (And.intro @k1 @k2)))))
      refine ngB ?_
      first | exact trivial | clear H
      refine WK.regP 3 ?_
      simp only [List.take_succ_cons, List.take_zero, List.getElem?_cons_succ, List.getElem?_cons_zero, go_sem, seval, reduceCtorEq, nz_id, nx_id, hg, pbox]
      refine callK_pureL (operator_ok hsg t) rfl ?_ ?_ ?_ <;> simp only [go_sem, seval, reduceCtorEq, nz_id, nx_id, hg, pbox]
      refine panR_x0 (hp id ns r _ e (by simp only [need]; omega) hns ltsA (by simp only [go_sem, seval, reduceCtorEq, nz_id, nx_id, hg, pbox]; first | done | omega)) rfl ?_ ?_ ?_ <;> simp only [go_sem, seval, reduceCtorEq]
      refine fun _ => ?_
      rw [e2]
      have H := And.intro @nz_id (And.intro @nx_id @hg)
      exact cutA
    | false =>
    cases k3 : (t == [70]) with
    | true =>
      have H := And.intro @nz_id (And.intro @nx_id @hg)
      refine ngB ?_
      first | exact trivial | clear H
      have H := And.intro @nz_id (And.intro @nx_id (And.intro @hg (And.intro @h2 (And.intro @h3 (And.intro @k1 (And.intro @k2 @k3))))))
      refine rB ?_
      first | exact trivial | clear H
      have H := And.intro @nz_id (And.intro @nx_id (And.intro @hg (And.intro @h2 (And.intro @h3 (And.intro @k1 (And.intro @k2 @k3))))))
      refine rB ?_
      first | exact trivial | clear H
      have H := And.intro @nz_id (And.intro @nx_id (And.intro @hg (And.intro @h2 (And.intro @h3 (And.intro @k1 (And.intro @k2 @k3))))))
      refine rB ?_
      first | exact trivial | clear H
      have H := And.intro @nz_id (And.intro @nx_id (And.intro @hg (And.intro @h2 (And.intro @h3 (And.intro @k1 (And.intro @k2 @k3))))))
      refine rB ?_
      first | exact trivial | clear H
      have H := And.intro @nz_id (And.intro @nx_id (And.intro @hg (And.intro @h2 (And.intro @h3 (And.intro @k1 (And.intro @k2 @k3))))))
      refine rB ?_
      first | exact trivial | clear H
      have H := And.intro @nz_id (And.intro @nx_id (And.intro @hg (And.intro @h2 (And.intro @h3 (And.intro @k1 (And.intro @k2 @k3))))))
      refine rB ?_
      first | exact trivial | clear H
      have H := And.intro @nz_id (And.intro @nx_id (And.intro @hg (And.intro @h2 (And.intro @h3 (And.intro @k1 (And.intro @k2 @k3))))))
      refine ngB ?_
      first | exact trivial | clear H
      refine WK.regP 3 ?_
      simp only [List.take_succ_cons, List.take_zero, List.getElem?_cons_succ, List.getElem?_cons_zero, go_sem, seval, reduceCtorEq, nz_id, nx_id, hg, pbox]
      refine callK_pureL (operator_ok hsg t) rfl ?_ ?_ ?_ <;> simp only [go_sem, seval, reduceCtorEq, nz_id, nx_id, hg, pbox]
      refine panR_x0 (hp id ns r _ e (by simp only [need]; omega) hns ltsA (by simp only [go_sem, seval, reduceCtorEq, nz_id, nx_id, hg, pbox]; first | done | omega)) rfl ?_ ?_ ?_ <;> simp only [go_sem, seval, reduceCtorEq]
      refine fun _ => ?_
      rw [e2]
      have H := And.intro @nz_id (And.intro @nx_id @hg)
      exact cutA
    | false =>
    cases k4 : (t == [71]) with
    | true =>
      have H := And.intro @nz_id (And.intro @nx_id @hg)
      refine ngB ?_
      first | exact trivial | clear H
      have H := And.intro @nz_id (And.intro @nx_id (And.intro @hg (And.intro @h2 (And.intro @h3 (And.intro @k1 (And.intro @k2 (And.intro @k3 @k4)))))))
      refine rB ?_
      first | exact trivial | clear H
      have H := And.intro @nz_id (And.intro @nx_id (And.intro @hg (And.intro @h2 (And.intro @h3 (And.intro @k1 (And.intro @k2 (And.intro @k3 @k4)))))))
      refine rB ?_
      first | exact trivial | clear H
      have H := And.intro @nz_id (And.intro @nx_id (And.intro @hg (And.intro @h2 (And.intro @h3 (And.intro @k1 (And.intro @k2 (And.intro @k3 @k4)))))))
      refine rB ?_
      first | exact trivial | clear H
      have H := And.intro @nz_id (And.intro @nx_id (And.intro @hg (And.intro @h2 (And.intro @h3 (And.intro @k1 (And.intro @k2 (And.intro @k3 @k4)))))))
      refine rB ?_
      first | exact trivial | clear H
      have H := And.intro @nz_id (And.intro @nx_id (And.intro @hg (And.intro @h2 (And.intro @h3 (And.intro @k1 (And.intro @k2 (And.intro @k3 @k4)))))))
      refine rB ?_
      first | exact trivial | clear H
      have H := And.intro @nz_id (And.intro @nx_id (And.intro @hg (And.intro @h2 (And.intro @h3 (And.intro @k1 (And.intro @k2 (And.intro @k3 @k4)))))))
      refine rB ?_
      first | exact trivial | clear H
      have H := And.intro @nz_id (And.intro @nx_id (And.intro @hg (And.intro @h2 (And.intro @h3 (And.intro @k1 (And.intro @k2 (And.intro @k3 @k4)))))))
      refine ngB ?_
      first | exact trivial | clear H
      refine WK.regP 3 ?_
      simp only [List.take_succ_cons, List.take_zero, List.getElem?_cons_succ, List.getElem?_cons_zero, go_sem, seval, reduceCtorEq, nz_id, nx_id, hg, pbox]
      refine callK_pureL (operator_ok hsg t) rfl ?_ ?_ ?_ <;> simp only [go_sem, seval, reduceCtorEq, nz_id, nx_id, hg, pbox]
      refine panR_x0 (hp id ns r _ e (by simp only [need]; omega) hns ltsA (by simp only [go_sem, seval, reduceCtorEq, nz_id, nx_id, hg, pbox]; first | done | omega)) rfl ?_ ?_ ?_ <;> simp only [go_sem, seval, reduceCtorEq]
      refine fun _ => ?_
      rw [e2]
      have H := And.intro @nz_id (And.intro @nx_id @hg)
      exact cutA
    | false =>
    unfold opPre at h4; rw [k1, k2, k3, k4] at h4; cases h4
  | false =>
    cases e : decide (idxT t ns < 0) with
    | false => have e := of_decide_eq_false e; simp only [parF, h0, h1, h2, h3, h4, e, Bool.false_eq_true, if_false, if_true] at h; cases h
    | true =>
    have e2 : errF ns (n + 1) .pre (t :: r) = r := by simp only [errF, h0, h1, h4, Bool.false_eq_true, if_false]
    have k4 : (t == [33]) = false ∧ (t == [88]) = false ∧ (t == [70]) = false ∧ (t == [71]) = false := by
      unfold opPre at h4
      simp only [Bool.or_eq_false_iff] at h4
      exact h4
    obtain ⟨k1, k2, k3, k4⟩ := k4
    have H := And.intro @nz_id (And.intro @nx_id @hg)
    refine ngB ?_
    first | exact trivial | clear H
    have H := And.intro @nz_id (And.intro @nx_id (And.intro @hg (And.intro @h2 (And.intro @h3 (And.intro @k1 (And.intro @k2 (And.intro @k3 @k4)))))))
    refine rB ?_
    first | exact trivial | clear H
    have H := And.intro @nz_id (And.intro @nx_id (And.intro @hg (And.intro @h2 (And.intro @h3 (And.intro @k1 (And.intro @k2 (And.intro @k3 @k4)))))))
    refine rB ?_
    first | exact trivial | clear H
    have H := And.intro @nz_id (And.intro @nx_id (And.intro @hg (And.intro @h2 (And.intro @h3 (And.intro @k1 (And.intro @k2 (And.intro @k3 @k4)))))))
    refine rB ?_
    first | exact trivial | clear H
    have H := And.intro @nz_id (And.intro @nx_id (And.intro @hg (And.intro @h2 (And.intro @h3 (And.intro @k1 (And.intro @k2 (And.intro @k3 @k4)))))))
    refine rB ?_
    first | exact trivial | clear H
    have H := And.intro @nz_id (And.intro @nx_id (And.intro @hg (And.intro @h2 (And.intro @h3 (And.intro @k1 (And.intro @k2 (And.intro @k3 @k4)))))))
    refine rB ?_
    first | exact trivial | clear H
    have H := And.intro @nz_id (And.intro @nx_id (And.intro @hg (And.intro @h2 (And.intro @h3 (And.intro @k1 (And.intro @k2 (And.intro @k3 @k4)))))))
    refine rB ?_
    first | exact trivial | clear H
    have H := And.intro @nz_id (And.intro @nx_id (And.intro @hg (And.intro @h2 (And.intro @h3 (And.intro @k1 (And.intro @k2 (And.intro @k3 @k4)))))))
    refine rB ?_
    first | exact trivial | clear H
    refine callK_pureL (indexT_ok (gl := gl) ns t (by omega)) rfl ?_ ?_ ?_ <;> simp only [go_sem, seval, reduceCtorEq, nz_id, nx_id, hg, pbox]
    have H := And.intro @nz_id (And.intro @nx_id (And.intro @hg @e))
    refine rB ?_
    first | exact trivial | clear H
    have H := And.intro @nz_id (And.intro @nx_id (And.intro @hg @e))
    refine ngB ?_
    first | exact trivial | clear H
    refine WK.regP 2 ?_
    simp only [List.take_succ_cons, List.take_zero, List.getElem?_cons_succ, List.getElem?_cons_zero, go_sem, seval, reduceCtorEq, nz_id, nx_id, hg, pbox]
    refine panR_p (t := 129) ?_ ?_ <;> simp only [go_sem, seval, reduceCtorEq]
    refine fun _ => ?_
    rw [e2]
    have H := And.intro @nz_id (And.intro @nx_id @hg)
    exact cutA
theorem binary_err (hsg : gl.at' 3 = signsA) (har : gl.at' 0 = arityA) (hst : gl.at' 1 = strengthA) (hri : gl.at' 2 = rightA) {n : Nat}
    (hp : PreE gl n) (hpo : PreOK gl n) (hbn : ∀ m, m ≤ n → BinE gl m) (hbo : ∀ m, m ≤ n → BinOK gl m) : BinE gl (n + 1) := by
  intro id ns l least σ h hne hns hl hg
  have hsg' : (C gl).gl 3 = signsA := hsg
  have har' : (C gl).gl 0 = arityA := har
  have hst' : (C gl).gl 1 = strengthA := hst
  have hri' : (C gl).gl 2 = rightA := hri
  simp only [need] at hne
  refine calle_of b97 (by simp [Tryd.ntmps97]) ?_
  refine W.of ?_
  rw [Tryd.ntmps97]
  simp only [toK, codeOf, Tryd.f97, go_sem, seval, reduceCtorEq]
  have nz_id : (id = σ.next) = False := by simp; omega
  have nx_id : ∀ j, (id = σ.next + j) = False := fun j => by simp; omega
  have H := And.intro @nz_id (And.intro @nx_id @hg)
  refine rB ?_
  first | exact trivial | clear H
  cases e : parF ns n .pre l with
  | none =>
    have e2 : errF ns (n + 1) (.bin least) l = errF ns n .pre l := by simp only [errF, e]
    have H := And.intro @nz_id (And.intro @nx_id @hg)
    refine ngB ?_
    first | exact trivial | clear H
    refine WK.regP 1 ?_
    simp only [List.take_succ_cons, List.take_zero, List.getElem?_cons_succ, List.getElem?_cons_zero, go_sem, seval, reduceCtorEq, nz_id, nx_id, hg, pbox]
    refine panR_x0 (hp id ns l _ e (by simp only [need]; omega) hns ltsA (by simp only [go_sem, seval, reduceCtorEq, nz_id, nx_id, hg, pbox]; first | done | omega)) rfl ?_ ?_ ?_ <;> simp only [go_sem, seval, reduceCtorEq]
    refine fun _ => ?_
    rw [e2]
    have H := And.intro @nz_id (And.intro @nx_id @hg)
    exact cutA
  | some p =>
  obtain ⟨f1, l1⟩ := p
  have hlp : parF ns n (.loop least f1) l1 = none := by simpa only [parF, e] using h
  have e2 : errF ns (n + 1) (.bin least) l = errF ns n (.loop least f1) l1 := by simp only [errF, e]
  have hlen := parF_len ns n _ _ _ _ e
  simp only [eats] at hlen
  have H := And.intro @nz_id (And.intro @nx_id @hg)
  refine rB ?_
  first | exact trivial | clear H
  refine callK_x0 (hpo id ns l l1 f1 _ e hns ltsA (by simp only [go_sem, seval, reduceCtorEq, nz_id, nx_id, hg, pbox]; first | done | omega)) rfl ?_ ?_ ?_ <;> simp only [go_sem, seval, reduceCtorEq, nz_id, nx_id, hg, pbox, encF_eq]
  have H := And.intro @nz_id (And.intro @nx_id @hg)
  refine ngB ?_
  first | exact trivial | clear H
  refine WK.block ?_
  refine WK.loopX [0, 1, 4, 5] [] (fun _ : Nat × Fm × List Bs => []) (fun s => ((σ.set id (pbox ns s.2.2)).add (.box [.int .i64 0, .int .i64 0, .list true []])).add (.box [.int .i64 s.2.1.op, .int .i64 s.2.1.var, .list false (encFs s.2.1.args)]))
    (fun s => s.1 ≤ n ∧ parF ns s.1 (.loop least s.2.1) s.2.2 = none ∧ need (.loop least s.2.1) s.2.2.length ≤ s.1 ∧ errF ns s.1 (.loop least s.2.1) s.2.2 = errF ns n (.loop least f1) l1) (fun s => s.1) (n, f1, l1) (by decide) ⟨Nat.le_refl _, hlp, by simp only [need]; omega, rfl⟩ (by simp only [go_sem, seval, reduceCtorEq]) (by rfl) ?_
  rintro ⟨m, g, k⟩ ⟨hm, hI, hk, hE⟩
  simp only at hm hI hk hE
  cases m with
  | zero => simp [need] at hk
  | succ m =>
  simp only [need] at hk
  simp only [go_sem, seval, reduceCtorEq]
  have H := And.intro @nz_id (And.intro @nx_id @hg)
  refine ngB ?_
  first | exact trivial | clear H
  have H := And.intro @nz_id (And.intro @nx_id @hg)
  refine rB ?_
  first | exact trivial | clear H
  refine callK_x0 (now_ok (gl := gl) id ns k _ (by simp only [go_sem, seval, reduceCtorEq, nz_id, nx_id, hg, pbox]; first | done | omega)) rfl ?_ ?_ ?_ <;> simp only [go_sem, seval, reduceCtorEq, nz_id, nx_id, hg, pbox]
  refine callK_pureL (operator_ok hsg (nowS k)) rfl ?_ ?_ ?_ <;> simp only [go_sem, seval, reduceCtorEq, nz_id, nx_id, hg, pbox]
  have H := And.intro @nz_id (And.intro @nx_id @hg)
  refine rB ?_
  first | exact trivial | clear H
  have hs : stops least (opS (nowS k)) = false := by
    cases hs : stops least (opS (nowS k)) with
    | false => rfl
    | true => simp only [parF, hs, if_true] at hI; cases hI
  have q1 : decide (opS (nowS k) < 0) = false := by
    unfold stops at hs; rw [Bool.or_eq_false_iff] at hs; exact hs.1
  obtain ⟨o, ho, ho14⟩ : ∃ o : Nat, opS (nowS k) = (o : Int) ∧ o < 14 := opS_nat (of_decide_eq_false q1)
  rw [ho] at q1
  have g1 := getD_map' (AV.int .i64) arityL 0 (i := o) ho14
  have g2 := getD_map' (AV.int .i64) strengthL 0 (i := o) ho14
  have g3 := getD_map' AV.bool rightL false (i := o) ho14
  have g1 : arityA.getD o .undef = _ := g1
  have g2 : strengthA.getD o .undef = _ := g2
  have g3 : rightA.getD o .undef = _ := g3
  have n1 : arityA.length = 14 := rfl
  have n2 : strengthA.length = 14 := rfl
  have n3 : rightA.length = 14 := rfl
  have hs' := hs
  unfold stops at hs'
  rw [ho, Int.toNat_natCast] at hs'
  simp only [Bool.or_eq_false_iff, Bool.not_eq_false'] at hs'
  obtain ⟨_, q2, q3⟩ := hs'
  cases k with
  | nil => exact absurd ho (by show (-1 : Int) ≠ o; omega)
  | cons t k =>
  have ht : (t == []) = false := by
    cases hz : (t == []) with
    | false => rfl
    | true =>
      have : opS (nowS (t :: k)) = -1 := by show (if t == [] then (-1 : Int) else _) = _; rw [hz]; rfl
      omega
  have hs2 : stops least (o : Int) = false := by rw [← ho]; exact hs
  have sb := strength_le o ho14
  have w1 : IntKind.i64.wrap (strengthL.getD o 0 + 1) = strengthL.getD o 0 + 1 := wrap_lt (by omega) (by omega)
  have w2 : IntKind.i64.wrap (strengthL.getD o 0 + 1 - 1) = strengthL.getD o 0 := by rw [wrap_lt (by omega) (by omega)]; omega
  simp only [List.length_cons] at hk
  simp only [go_sem, seval, reduceCtorEq, nz_id, nx_id, hg, pbox, ho, har', hst', hri', g1, g2, g3, bne, n1, n2, n3, q1, q2, q3]
  have H := And.intro @nz_id (And.intro @nx_id (And.intro @hg (And.intro @ho (And.intro @har' (And.intro @hst' (And.intro @hri' (And.intro @g1 (And.intro @g2 (And.intro @g3 (And.intro @n1 (And.intro @n2 (And.intro @n3 (And.intro @q1 (And.intro @q2 @q3))))))))))))))
  refine ngB ?_
  first | exact trivial | clear H
  have H := And.intro @nz_id (And.intro @nx_id (And.intro @hg (And.intro @ho (And.intro @har' (And.intro @hst' (And.intro @hri' (And.intro @g1 (And.intro @g2 (And.intro @g3 (And.intro @n1 (And.intro @n2 (And.intro @n3 (And.intro @q1 (And.intro @q2 @q3))))))))))))))
  refine rB ?_
  first | exact trivial | clear H
  have H := And.intro @nz_id (And.intro @nx_id (And.intro @hg (And.intro @ho (And.intro @har' (And.intro @hst' (And.intro @hri' (And.intro @g1 (And.intro @g2 (And.intro @g3 (And.intro @n1 (And.intro @n2 (And.intro @n3 (And.intro @q1 (And.intro @q2 @q3))))))))))))))
  refine rB ?_
  first | exact trivial | clear H
  refine callK_x0 (step_ok (gl := gl) id ns t k ht _ ltsA (by simp only [go_sem, seval, reduceCtorEq, nz_id, nx_id, hg, pbox, ho, har', hst', hri', g1, g2, g3, bne, n1, n2, n3, q1, q2, q3]; first | done | omega)) rfl ?_ ?_ ?_ <;> simp only [go_sem, seval, reduceCtorEq, nz_id, nx_id, hg, pbox, ho, har', hst', hri', g1, g2, g3, bne, n1, n2, n3, q1, q2, q3]
  have H := And.intro @nz_id (And.intro @nx_id (And.intro @hg (And.intro @ho (And.intro @har' (And.intro @hst' (And.intro @hri' (And.intro @g1 (And.intro @g2 (And.intro @g3 (And.intro @n1 (And.intro @n2 (And.intro @n3 (And.intro @q1 (And.intro @q2 (And.intro @q3 @w1)))))))))))))))
  refine rB ?_
  first | exact trivial | clear H
  have H := And.intro @nz_id (And.intro @nx_id (And.intro @hg (And.intro @ho (And.intro @har' (And.intro @hst' (And.intro @hri' (And.intro @g1 (And.intro @g2 (And.intro @g3 (And.intro @n1 (And.intro @n2 (And.intro @n3 (And.intro @q1 (And.intro @q2 (And.intro @q3 @w1)))))))))))))))
  refine rB ?_
  first | exact trivial | clear H
  have eq4 : nxt (o : Int) = if rightL.getD o false then strengthL.getD o 0 else strengthL.getD o 0 + 1 := nxt_nat o
  cases q4 : rightL.getD o false with
  | true =>
    have e4 : nxt (o : Int) = strengthL.getD o 0 := by rw [eq4, q4]; rfl
    have H := And.intro @nz_id (And.intro @nx_id (And.intro @hg (And.intro @ho (And.intro @har' (And.intro @hst' (And.intro @hri' (And.intro @g1 (And.intro @g2 (And.intro @g3 (And.intro @n1 (And.intro @n2 (And.intro @n3 (And.intro @q1 (And.intro @q2 (And.intro @q3 (And.intro @w1 (And.intro @w2 @q4)))))))))))))))))
    refine ngB ?_
    first | exact trivial | clear H
    have H := And.intro @nz_id (And.intro @nx_id (And.intro @hg (And.intro @ho (And.intro @har' (And.intro @hst' (And.intro @hri' (And.intro @g1 (And.intro @g2 (And.intro @g3 (And.intro @n1 (And.intro @n2 (And.intro @n3 (And.intro @q1 (And.intro @q2 (And.intro @q3 (And.intro @w1 (And.intro @w2 @q4)))))))))))))))))
    refine rB ?_
    first | exact trivial | clear H
    cases e3 : parF ns m (.bin (nxt (o : Int))) k with
    | none =>
      have e5 : errF ns (m + 1) (.loop least g) (t :: k) = errF ns m (.bin (nxt (o : Int))) k := by simp only [errF, ho, List.drop_succ_cons, List.drop_zero, e3]
      rw [e4] at e3 e5
      have H := And.intro @nz_id (And.intro @nx_id (And.intro @hg (And.intro @ho (And.intro @har' (And.intro @hst' (And.intro @hri' (And.intro @g1 (And.intro @g2 (And.intro @g3 (And.intro @n1 (And.intro @n2 (And.intro @n3 (And.intro @q1 (And.intro @q2 @q3))))))))))))))
      refine ngB ?_
      first | exact trivial | clear H
      refine WK.regP 2 ?_
      simp only [List.take_succ_cons, List.take_zero, List.getElem?_cons_succ, List.getElem?_cons_zero, go_sem, seval, reduceCtorEq, nz_id, nx_id, hg, pbox, ho, har', hst', hri', g1, g2, g3, bne, n1, n2, n3, q1, q2, q3]
      refine panR_x0 (hbn m (by omega) id ns k (strengthL.getD o 0) _ e3 (by simp only [need]; omega) hns ltsA (by simp only [go_sem, seval, reduceCtorEq, nz_id, nx_id, hg, pbox, ho, har', hst', hri', g1, g2, g3, bne, n1, n2, n3, q1, q2, q3]; first | done | omega)) rfl (by simp only [go_sem, seval, reduceCtorEq]) (by simp only [go_sem, seval, reduceCtorEq]) fun _ => ?_
      show inBlk 0 (.panic (panE 129)) = .panic (panE 129) ∧ Cut _ _ _
      refine ⟨rfl, ?_⟩
      rw [e2, ← hE, e5]
      have H := And.intro @nz_id (And.intro @nx_id (And.intro @hg (And.intro @ho (And.intro @har' (And.intro @hst' (And.intro @hri' (And.intro @g1 (And.intro @g2 (And.intro @g3 (And.intro @n1 (And.intro @n2 (And.intro @n3 (And.intro @q1 (And.intro @q2 @q3))))))))))))))
      exact cutA
    | some p =>
      obtain ⟨gg, l2⟩ := p
      have hI2 : parF ns m (.loop least (.mk (o : Int) 0 [g, gg])) l2 = none := by
        simp only [parF, hs2, Bool.false_eq_true, if_false, List.drop_succ_cons, List.drop_zero, ho, e3] at hI; exact hI
      have e5 : errF ns (m + 1) (.loop least g) (t :: k) = errF ns m (.loop least (.mk (o : Int) 0 [g, gg])) l2 := by simp only [errF, ho, List.drop_succ_cons, List.drop_zero, e3]
      have hlen2 := parF_len ns m _ _ _ _ e3
      simp only [eats] at hlen2
      rw [e4] at e3
      have H := And.intro @nz_id (And.intro @nx_id (And.intro @hg (And.intro @ho (And.intro @har' (And.intro @hst' (And.intro @hri' (And.intro @g1 (And.intro @g2 (And.intro @g3 (And.intro @n1 (And.intro @n2 (And.intro @n3 (And.intro @q1 (And.intro @q2 (And.intro @q3 (And.intro @w1 @w2))))))))))))))))
      refine goB ?_
      first | exact trivial | clear H
      refine callK_x0 (hbo m (by omega) id ns k l2 (strengthL.getD o 0) gg _ e3 hns ltsA (by simp only [go_sem, seval, reduceCtorEq, nz_id, nx_id, hg, pbox, ho, har', hst', hri', g1, g2, g3, bne, n1, n2, n3, q1, q2, q3]; first | done | omega)) rfl ?_ ?_ ?_ <;> simp only [go_sem, seval, reduceCtorEq, nz_id, nx_id, hg, pbox, ho, har', hst', hri', g1, g2, g3, bne, n1, n2, n3, q1, q2, q3, encF_eq]
      have H := And.intro @nz_id (And.intro @nx_id (And.intro @hg (And.intro @ho (And.intro @har' (And.intro @hst' (And.intro @hri' (And.intro @g1 (And.intro @g2 (And.intro @g3 (And.intro @n1 (And.intro @n2 (And.intro @n3 (And.intro @q1 (And.intro @q2 @q3))))))))))))))
      refine goB ?_
      first | exact trivial | clear H
      refine callK_pureL (make_ok (gl := gl) true o [g, gg]) rfl ?_ ?_ ?_ <;> simp only [go_sem, seval, reduceCtorEq, nz_id, nx_id, hg, pbox, ho, har', hst', hri', g1, g2, g3, bne, n1, n2, n3, q1, q2, q3, encF_eq, encFs]
      have H := And.intro @nz_id (And.intro @nx_id (And.intro @hg (And.intro @ho (And.intro @har' (And.intro @hst' (And.intro @hri' (And.intro @g1 (And.intro @g2 (And.intro @g3 (And.intro @n1 (And.intro @n2 (And.intro @n3 (And.intro @q1 (And.intro @q2 @q3))))))))))))))
      refine goB ?_
      first | exact trivial | clear H
      refine ⟨(m, .mk o 0 [g, gg], l2), ⟨by simp only; omega, hI2, by simp only [need]; omega, by rw [← hE, e5]⟩, Nat.lt_succ_self m, ?_⟩
      simp only [pbox, fm_op, fm_var, fm_args, encFs, encF_eq] at hg ⊢
      have H := And.intro @nz_id (And.intro @nx_id (And.intro @hg (And.intro @ho (And.intro @har' (And.intro @hst' (And.intro @hri' (And.intro @g1 (And.intro @g2 (And.intro @g3 (And.intro @n1 (And.intro @n2 (And.intro @n3 (And.intro @q1 (And.intro @q2 @q3))))))))))))))
      exact cutA
  | false =>
    have e4 : nxt (o : Int) = strengthL.getD o 0 + 1 := by rw [eq4, q4]; rfl
    have H := And.intro @nz_id (And.intro @nx_id (And.intro @hg (And.intro @ho (And.intro @har' (And.intro @hst' (And.intro @hri' (And.intro @g1 (And.intro @g2 (And.intro @g3 (And.intro @n1 (And.intro @n2 (And.intro @n3 (And.intro @q1 (And.intro @q2 (And.intro @q3 (And.intro @w1 (And.intro @w2 @q4)))))))))))))))))
    refine ngB ?_
    first | exact trivial | clear H
    have H := And.intro @nz_id (And.intro @nx_id (And.intro @hg (And.intro @ho (And.intro @har' (And.intro @hst' (And.intro @hri' (And.intro @g1 (And.intro @g2 (And.intro @g3 (And.intro @n1 (And.intro @n2 (And.intro @n3 (And.intro @q1 (And.intro @q2 (And.intro @q3 (And.intro @w1 (And.intro @w2 @q4)))))))))))))))))
    refine rB ?_
    first | exact trivial | clear H
    cases e3 : parF ns m (.bin (nxt (o : Int))) k with
    | none =>
      have e5 : errF ns (m + 1) (.loop least g) (t :: k) = errF ns m (.bin (nxt (o : Int))) k := by simp only [errF, ho, List.drop_succ_cons, List.drop_zero, e3]
      rw [e4] at e3 e5
      have H := And.intro @nz_id (And.intro @nx_id (And.intro @hg (And.intro @ho (And.intro @har' (And.intro @hst' (And.intro @hri' (And.intro @g1 (And.intro @g2 (And.intro @g3 (And.intro @n1 (And.intro @n2 (And.intro @n3 (And.intro @q1 (And.intro @q2 @q3))))))))))))))
      refine ngB ?_
      first | exact trivial | clear H
      refine WK.regP 2 ?_
      simp only [List.take_succ_cons, List.take_zero, List.getElem?_cons_succ, List.getElem?_cons_zero, go_sem, seval, reduceCtorEq, nz_id, nx_id, hg, pbox, ho, har', hst', hri', g1, g2, g3, bne, n1, n2, n3, q1, q2, q3]
      refine panR_x0 (hbn m (by omega) id ns k (strengthL.getD o 0 + 1) _ e3 (by simp only [need]; omega) hns ltsA (by simp only [go_sem, seval, reduceCtorEq, nz_id, nx_id, hg, pbox, ho, har', hst', hri', g1, g2, g3, bne, n1, n2, n3, q1, q2, q3]; first | done | omega)) rfl (by simp only [go_sem, seval, reduceCtorEq]) (by simp only [go_sem, seval, reduceCtorEq]) fun _ => ?_
      show inBlk 0 (.panic (panE 129)) = .panic (panE 129) ∧ Cut _ _ _
      refine ⟨rfl, ?_⟩
      rw [e2, ← hE, e5]
      have H := And.intro @nz_id (And.intro @nx_id (And.intro @hg (And.intro @ho (And.intro @har' (And.intro @hst' (And.intro @hri' (And.intro @g1 (And.intro @g2 (And.intro @g3 (And.intro @n1 (And.intro @n2 (And.intro @n3 (And.intro @q1 (And.intro @q2 @q3))))))))))))))
      exact cutA
    | some p =>
      obtain ⟨gg, l2⟩ := p
      have hI2 : parF ns m (.loop least (.mk (o : Int) 0 [g, gg])) l2 = none := by
        simp only [parF, hs2, Bool.false_eq_true, if_false, List.drop_succ_cons, List.drop_zero, ho, e3] at hI; exact hI
      have e5 : errF ns (m + 1) (.loop least g) (t :: k) = errF ns m (.loop least (.mk (o : Int) 0 [g, gg])) l2 := by simp only [errF, ho, List.drop_succ_cons, List.drop_zero, e3]
      have hlen2 := parF_len ns m _ _ _ _ e3
      simp only [eats] at hlen2
      rw [e4] at e3
      have H := And.intro @nz_id (And.intro @nx_id (And.intro @hg (And.intro @ho (And.intro @har' (And.intro @hst' (And.intro @hri' (And.intro @g1 (And.intro @g2 (And.intro @g3 (And.intro @n1 (And.intro @n2 (And.intro @n3 (And.intro @q1 (And.intro @q2 (And.intro @q3 (And.intro @w1 @w2))))))))))))))))
      refine goB ?_
      first | exact trivial | clear H
      refine callK_x0 (hbo m (by omega) id ns k l2 (strengthL.getD o 0 + 1) gg _ e3 hns ltsA (by simp only [go_sem, seval, reduceCtorEq, nz_id, nx_id, hg, pbox, ho, har', hst', hri', g1, g2, g3, bne, n1, n2, n3, q1, q2, q3]; first | done | omega)) rfl ?_ ?_ ?_ <;> simp only [go_sem, seval, reduceCtorEq, nz_id, nx_id, hg, pbox, ho, har', hst', hri', g1, g2, g3, bne, n1, n2, n3, q1, q2, q3, encF_eq]
      have H := And.intro @nz_id (And.intro @nx_id (And.intro @hg (And.intro @ho (And.intro @har' (And.intro @hst' (And.intro @hri' (And.intro @g1 (And.intro @g2 (And.intro @g3 (And.intro @n1 (And.intro @n2 (And.intro @n3 (And.intro @q1 (And.intro @q2 @q3))))))))))))))
      refine goB ?_
      first | exact trivial | clear H
      refine callK_pureL (make_ok (gl := gl) true o [g, gg]) rfl ?_ ?_ ?_ <;> simp only [go_sem, seval, reduceCtorEq, nz_id, nx_id, hg, pbox, ho, har', hst', hri', g1, g2, g3, bne, n1, n2, n3, q1, q2, q3, encF_eq, encFs]
      have H := And.intro @nz_id (And.intro @nx_id (And.intro @hg (And.intro @ho (And.intro @har' (And.intro @hst' (And.intro @hri' (And.intro @g1 (And.intro @g2 (And.intro @g3 (And.intro @n1 (And.intro @n2 (And.intro @n3 (And.intro @q1 (And.intro @q2 @q3))))))))))))))
      refine goB ?_
      first | exact trivial | clear H
      refine ⟨(m, .mk o 0 [g, gg], l2), ⟨by simp only; omega, hI2, by simp only [need]; omega, by rw [← hE, e5]⟩, Nat.lt_succ_self m, ?_⟩
      simp only [pbox, fm_op, fm_var, fm_args, encFs, encF_eq] at hg ⊢
      have H := And.intro @nz_id (And.intro @nx_id (And.intro @hg (And.intro @ho (And.intro @har' (And.intro @hst' (And.intro @hri' (And.intro @g1 (And.intro @g2 (And.intro @g3 (And.intro @n1 (And.intro @n2 (And.intro @n3 (And.intro @q1 (And.intro @q2 @q3))))))))))))))
      exact cutA
theorem parseE_all (hsg : gl.at' 3 = signsA) (har : gl.at' 0 = arityA) (hst : gl.at' 1 = strengthA) (hri : gl.at' 2 = rightA) : ∀ n, PreE gl n ∧ ∀ m, m ≤ n → BinE gl m
  | 0 => by
    refine ⟨fun id ns l σ _ h => by simp [need] at h, fun m hm => ?_⟩
    have hm0 : m = 0 := by omega
    subst hm0
    intro id ns l least σ _ h
    simp [need] at h
  | n + 1 => by
    obtain ⟨h1, h2⟩ := parseE_all hsg har hst hri n
    obtain ⟨k1, k2⟩ := parse_all hsg har hst hri n
    refine ⟨prefix_err hsg h1 (h2 n (Nat.le_refl _)) (k2 n (Nat.le_refl _)), fun m hm => ?_⟩
    by_cases e : m = n + 1
    · subst e; exact binary_err hsg har hst hri h1 k1 h2 k2
    · exact h2 m (by omega)
end
end Go.Sx
