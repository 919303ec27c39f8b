import Derived.Test.YtndchmmclfidgaaDoorTkC
import Derived.Test.YtndchmmclfidgaaDoorLgAw
set_option maxRecDepth 100000
set_option linter.unusedSimpArgs false
set_option linter.unusedVariables false
set_option linter.unnecessarySimpa false
namespace Go.Sx
open Go Go.Lg Go.Proofs
theorem b157 {gl : GL} : Body (C gl).P 157 Tryd.f157 (codeOf Tryd.f157) := ⟨Tryd.func157, by kernel_rfl, by kernel_rfl⟩
theorem b97 {gl : GL} : Body (C gl).P 97 Tryd.f97 (codeOf Tryd.f97) := ⟨Tryd.func97, by kernel_rfl, by kernel_rfl⟩

/-! ## What the parser reads -/
inductive Md where
  | pre
  | bin (least : Int)
  | loop (least : Int) (f : Fm)
def opPre (t : Bs) : Bool := t == [33] || (t == [88] || (t == [70] || t == [71]))
def nxt (op : Int) : Int := if rightL.getD op.toNat false then strengthL.getD op.toNat 0 else strengthL.getD op.toNat 0 + 1
def stops (least op : Int) : Bool := decide (op < 0) || (!(arityL.getD op.toNat 0 == 2) || decide (strengthL.getD op.toNat 0 < least))
def parF (ns : List Bs) : Nat → Md → List Bs → Option (Fm × List Bs)
  | 0, _, _ => none
  | n + 1, .pre, l =>
    match l with
    | [] => none
    | t :: r =>
      if t == [] then none
      else if t == [40] then
        match parF ns n (.bin 1) r with
        | some (f, u :: l') => if u == [41] then some (f, l') else none
        | _ => none
      else if t == trueT then some (.mk 0 0 [], r)
      else if t == falseT then some (.mk 1 0 [], r)
      else if opPre t then
        match parF ns n .pre r with
        | some (f, l') => some (.mk (opS t) 0 [f], l')
        | none => none
      else if idxT t ns < 0 then none else some (.mk 2 (idxT t ns) [], r)
  | n + 1, .bin least, l =>
    match parF ns n .pre l with
    | some (f, l') => parF ns n (.loop least f) l'
    | none => none
  | n + 1, .loop least f, l =>
    if stops least (opS (nowS l)) then some (f, l)
    else match parF ns n (.bin (nxt (opS (nowS l)))) (l.drop 1) with
      | some (g, l') => parF ns n (.loop least (.mk (opS (nowS l)) 0 [f, g])) l'
      | none => none
def pbox (ns l : List Bs) : AObj := .box [.list false (ns.map encT), .list false (l.map encT)]
theorem getD_map' {A : Type} (f : A → AV) : ∀ (L : List A) (d : A) {i : Nat}, i < L.length → (L.map f).getD i .undef = f (L.getD i d)
  | x :: l, d, 0, h => rfl
  | x :: l, d, i + 1, h => by simpa using getD_map' f l d (i := i) (by simpa using h)
theorem opS_nat {s : Bs} (h : ¬ opS s < 0) : ∃ o : Nat, opS s = (o : Int) ∧ o < 14 := by
  unfold opS at h ⊢
  cases hz : (s == []) with
  | true => rw [hz] at h; exact absurd (show (-1 : Int) < 0 by decide) h
  | false =>
    rw [hz] at h
    simp only [Bool.false_eq_true, if_false] at h ⊢
    rcases idxF_lt (fun t => s == t) signsL 0 with hh | hh
    · have : signsL.length = 14 := rfl
      rw [this] at hh
      exact ⟨(idxF (fun t => s == t) signsL 0).toNat, by omega, by omega⟩
    · rw [hh] at h; exact absurd h (by decide)
theorem strength_le : ∀ o : Nat, o < 14 → 0 ≤ strengthL.getD o 0 ∧ strengthL.getD o 0 ≤ 9 := by decide
section
variable {gl : GL}
/-- The parser's two functions at fuel n. -/
def PreOK (gl : GL) (n : Nat) : Prop := ∀ (id : Nat) (ns l l' : List Bs) (f : Fm) (σ : Sto), parF ns n .pre l = some (f, l') → ns.length < 1000000 → id < σ.next → σ.get id = some (pbox ns l) →
  CallX (C gl) 157 [.ptr id 0] σ (encF f) (σ.set id (pbox ns l'))
def BinOK (gl : GL) (n : Nat) : Prop := ∀ (id : Nat) (ns l l' : List Bs) (least : Int) (f : Fm) (σ : Sto), parF ns n (.bin least) l = some (f, l') → ns.length < 1000000 → id < σ.next → σ.get id = some (pbox ns l) →
  CallX (C gl) 97 [.ptr id 0, .int .i64 least] σ (encF f) (σ.set id (pbox ns l'))
theorem prefix_ok (hsg : gl.at' 3 = signsA) {n : Nat} (hp : PreOK gl n) (hbn : BinOK gl n) : PreOK gl (n + 1) := by
  intro id ns l l' f σ h hns hl hg
  cases l with
  | nil => simp [parF] at h
  | cons t r =>
  refine callX_of b157 (by simp [Tryd.ntmps157]) ?_
  refine W.of ?_
  rw [Tryd.ntmps157]
  simp only [toK, codeOf, Tryd.f157, go_sem, seval, reduceCtorEq]
  rw [show ([116, 114, 117, 101] : Bs) = trueT from rfl, show ([102, 97, 108, 115, 101] : Bs) = falseT from rfl]
  have nz_id : (id = σ.next) = False := by simp; omega
  have nx_id : ∀ j, (id = σ.next + j) = False := fun j => by simp; omega
  have H := And.intro @nz_id (And.intro @nx_id @hg)
  refine goB ?_
  first | exact trivial | clear H
  cases h0 : (t == []) with
  | true => simp [parF, h0] at h
  | false =>
  refine callK_x0 (step_ok (gl := gl) id ns t r h0 _ ltsA (by simp only [go_sem, seval, reduceCtorEq, nz_id, nx_id, hg, pbox]; first | done | omega)) rfl ?_ ?_ ?_ <;> simp only [go_sem, seval, reduceCtorEq, nz_id, nx_id, hg, pbox]
  have H := And.intro @nz_id (And.intro @nx_id @hg)
  refine goB ?_
  first | exact trivial | clear H
  cases h1 : (t == [40]) with
  | true =>
    cases e : parF ns n (.bin 1) r with
    | none => simp only [parF, h0, h1, e, Bool.false_eq_true, if_false, if_true] at h; cases h
    | some p =>
    obtain ⟨f1, l1⟩ := p
    cases l1 with
    | nil => simp only [parF, h0, h1, e, Bool.false_eq_true, if_false, if_true] at h; cases h
    | cons u l2 =>
    cases hu : (u == [41]) with
    | false => simp only [parF, h0, h1, e, hu, Bool.false_eq_true, if_false, if_true] at h; cases h
    | true =>
    have hh : some (f1, l2) = some (f, l') := by simpa only [parF, h0, h1, e, hu, Bool.false_eq_true, if_false, if_true] using h
    cases hh
    have hun : (u == []) = false := by rw [eq_of_beq hu]; rfl
    have H := And.intro @nz_id (And.intro @nx_id @hg)
    refine goB ?_
    first | exact trivial | clear H
    refine callK_x0 (hbn id ns r (u :: l') 1 f _ e hns ltsA (by simp only [go_sem, seval, reduceCtorEq, nz_id, nx_id, hg, pbox]; first | done | omega)) rfl ?_ ?_ ?_ <;> simp only [go_sem, seval, reduceCtorEq, nz_id, nx_id, hg, pbox, encF_eq]
    have H := And.intro @nz_id (And.intro @nx_id @hg)
    refine goB ?_
    first | exact trivial | clear H
    refine callK_x0 (step_ok (gl := gl) id ns u l' hun _ ltsA (by simp only [go_sem, seval, reduceCtorEq, nz_id, nx_id, hg, pbox]; first | done | omega)) rfl ?_ ?_ ?_ <;> simp only [go_sem, seval, reduceCtorEq, nz_id, nx_id, hg, pbox]
    have H := And.intro @nz_id (And.intro @nx_id (And.intro @hg @hu))
    refine goB ?_
    first | exact trivial | clear H
    have H := And.intro @nz_id (And.intro @nx_id @hg)
    exact cutA
  | false =>
  cases h2 : (t == trueT) with
  | true =>
    have hh : some (Fm.mk 0 0 [], r) = some (f, l') := by simpa only [parF, h0, h1, h2, Bool.false_eq_true, if_false, if_true] using h
    cases hh
    have H := And.intro @nz_id (And.intro @nx_id (And.intro @hg @h2))
    refine goB ?_
    first | exact trivial | clear H
    refine callK_pureL (make_ok (gl := gl) true 0 []) rfl ?_ ?_ ?_ <;> simp only [go_sem, seval, reduceCtorEq, nz_id, nx_id, hg, pbox, encF_eq, encFs]
    have H := And.intro @nz_id (And.intro @nx_id @hg)
    refine goB ?_
    first | exact trivial | clear H
    have H := And.intro @nz_id (And.intro @nx_id @hg)
    exact cutA
  | false =>
  cases h3 : (t == falseT) with
  | true =>
    have hh : some (Fm.mk 1 0 [], r) = some (f, l') := by simpa only [parF, h0, h1, h2, h3, Bool.false_eq_true, if_false, if_true] using h
    cases hh
    have H := And.intro @nz_id (And.intro @nx_id (And.intro @hg (And.intro @h2 @h3)))
    refine goB ?_
    first | exact trivial | clear H
    refine callK_pureL (make_ok (gl := gl) true 1 []) rfl ?_ ?_ ?_ <;> simp only [go_sem, seval, reduceCtorEq, nz_id, nx_id, hg, pbox, encF_eq, encFs]
    have H := And.intro @nz_id (And.intro @nx_id @hg)
    refine goB ?_
    first | exact trivial | clear H
    have H := And.intro @nz_id (And.intro @nx_id @hg)
    exact cutA
  | false =>
  cases h4 : opPre t with
  | true =>
    cases e : parF ns n .pre r with
    | none => simp only [parF, h0, h1, h2, h3, h4, e, Bool.false_eq_true, if_false, if_true] at h; cases h
    | some p =>
    obtain ⟨f1, l1⟩ := p
    have hh : some (Fm.mk (opS t) 0 [f1], l1) = some (f, l') := by simpa only [parF, h0, h1, h2, h3, h4, e, Bool.false_eq_true, if_false, if_true] using h
    cases hh
    cases k1 : (t == [33]) with
    | true =>
      have H := And.intro @nz_id (And.intro @nx_id (And.intro @hg (And.intro @h2 (And.intro @h3 @k1))))
      refine goB ?_
      first | exact trivial | clear H
      refine callK_pureL (operator_ok hsg t) rfl ?_ ?_ ?_ <;> simp only [go_sem, seval, reduceCtorEq, nz_id, nx_id, hg, pbox]
      have H := And.intro @nz_id (And.intro @nx_id @hg)
      refine goB ?_
      first | exact trivial | clear H
      refine callK_x0 (hp id ns r l' f1 _ e hns ltsA (by simp only [go_sem, seval, reduceCtorEq, nz_id, nx_id, hg, pbox]; first | done | omega)) rfl ?_ ?_ ?_ <;> simp only [go_sem, seval, reduceCtorEq, nz_id, nx_id, hg, pbox, encF_eq]
      have H := And.intro @nz_id (And.intro @nx_id @hg)
      refine goB ?_
      first | exact trivial | clear H
      refine callK_pureL (make_ok (gl := gl) true (opS t) [f1]) rfl ?_ ?_ ?_ <;> simp only [go_sem, seval, reduceCtorEq, nz_id, nx_id, hg, pbox, encF_eq, encFs]
      have H := And.intro @nz_id (And.intro @nx_id @hg)
      refine goB ?_
      first | exact trivial | clear H
      have H := And.intro @nz_id (And.intro @nx_id @hg)
      exact cutA
    | false =>
    cases k2 : (t == [88]) with
    | true =>
      have H := And.intro @nz_id (And.intro @nx_id (And.intro @hg (And.intro @h2 (And.intro @h3 (And.intro @k1 @k2)))))
      refine goB ?_
      first | exact trivial | clear H
      refine callK_pureL (operator_ok hsg t) rfl ?_ ?_ ?_ <;> simp only [go_sem, seval, reduceCtorEq, nz_id, nx_id, hg, pbox]
      have H := And.intro @nz_id (And.intro @nx_id @hg)
      refine goB ?_
      first | exact trivial | clear H
      refine callK_x0 (hp id ns r l' f1 _ e hns ltsA (by simp only [go_sem, seval, reduceCtorEq, nz_id, nx_id, hg, pbox]; first | done | omega)) rfl ?_ ?_ ?_ <;> simp only [go_sem, seval, reduceCtorEq, nz_id, nx_id, hg, pbox, encF_eq]
      have H := And.intro @nz_id (And.intro @nx_id @hg)
      refine goB ?_
      first | exact trivial | clear H
      refine callK_pureL (make_ok (gl := gl) true (opS t) [f1]) rfl ?_ ?_ ?_ <;> simp only [go_sem, seval, reduceCtorEq, nz_id, nx_id, hg, pbox, encF_eq, encFs]
      have H := And.intro @nz_id (And.intro @nx_id @hg)
      refine goB ?_
      first | exact trivial | clear H
      have H := And.intro @nz_id (And.intro @nx_id @hg)
      exact cutA
    | false =>
    cases k3 : (t == [70]) with
    | true =>
      have H := And.intro @nz_id (And.intro @nx_id (And.intro @hg (And.intro @h2 (And.intro @h3 (And.intro @k1 (And.intro @k2 @k3))))))
      refine goB ?_
      first | exact trivial | clear H
      refine callK_pureL (operator_ok hsg t) rfl ?_ ?_ ?_ <;> simp only [go_sem, seval, reduceCtorEq, nz_id, nx_id, hg, pbox]
      have H := And.intro @nz_id (And.intro @nx_id @hg)
      refine goB ?_
      first | exact trivial | clear H
      refine callK_x0 (hp id ns r l' f1 _ e hns ltsA (by simp only [go_sem, seval, reduceCtorEq, nz_id, nx_id, hg, pbox]; first | done | omega)) rfl ?_ ?_ ?_ <;> simp only [go_sem, seval, reduceCtorEq, nz_id, nx_id, hg, pbox, encF_eq]
      have H := And.intro @nz_id (And.intro @nx_id @hg)
      refine goB ?_
      first | exact trivial | clear H
      refine callK_pureL (make_ok (gl := gl) true (opS t) [f1]) rfl ?_ ?_ ?_ <;> simp only [go_sem, seval, reduceCtorEq, nz_id, nx_id, hg, pbox, encF_eq, encFs]
      have H := And.intro @nz_id (And.intro @nx_id @hg)
      refine goB ?_
      first | exact trivial | clear H
      have H := And.intro @nz_id (And.intro @nx_id @hg)
      exact cutA
    | false =>
    cases k4 : (t == [71]) with
    | true =>
      have H := And.intro @nz_id (And.intro @nx_id (And.intro @hg (And.intro @h2 (And.intro @h3 (And.intro @k1 (And.intro @k2 (And.intro @k3 @k4)))))))
      refine goB ?_
      first | exact trivial | clear H
      refine callK_pureL (operator_ok hsg t) rfl ?_ ?_ ?_ <;> simp only [go_sem, seval, reduceCtorEq, nz_id, nx_id, hg, pbox]
      have H := And.intro @nz_id (And.intro @nx_id @hg)
      refine goB ?_
      first | exact trivial | clear H
      refine callK_x0 (hp id ns r l' f1 _ e hns ltsA (by simp only [go_sem, seval, reduceCtorEq, nz_id, nx_id, hg, pbox]; first | done | omega)) rfl ?_ ?_ ?_ <;> simp only [go_sem, seval, reduceCtorEq, nz_id, nx_id, hg, pbox, encF_eq]
      have H := And.intro @nz_id (And.intro @nx_id @hg)
      refine goB ?_
      first | exact trivial | clear H
      refine callK_pureL (make_ok (gl := gl) true (opS t) [f1]) rfl ?_ ?_ ?_ <;> simp only [go_sem, seval, reduceCtorEq, nz_id, nx_id, hg, pbox, encF_eq, encFs]
      have H := And.intro @nz_id (And.intro @nx_id @hg)
      refine goB ?_
      first | exact trivial | clear H
      have H := And.intro @nz_id (And.intro @nx_id @hg)
      exact cutA
    | false =>
    unfold opPre at h4; rw [k1, k2, k3, k4] at h4; cases h4
  | false =>
    cases e : decide (idxT t ns < 0) with
    | true => have e := of_decide_eq_true e; simp only [parF, h0, h1, h2, h3, h4, e, Bool.false_eq_true, if_false, if_true] at h; cases h
    | false =>
    have e' := of_decide_eq_false e
    have hh : some (Fm.mk 2 (idxT t ns) [], r) = some (f, l') := by simpa only [parF, h0, h1, h2, h3, h4, e', Bool.false_eq_true, if_false, if_true] using h
    cases hh
    have k4 : (t == [33]) = false ∧ (t == [88]) = false ∧ (t == [70]) = false ∧ (t == [71]) = false := by
      unfold opPre at h4
      simp only [Bool.or_eq_false_iff] at h4
      exact h4
    obtain ⟨k1, k2, k3, k4⟩ := k4
    have H := And.intro @nz_id (And.intro @nx_id (And.intro @hg (And.intro @h2 (And.intro @h3 (And.intro @k1 (And.intro @k2 (And.intro @k3 @k4)))))))
    refine goB ?_
    first | exact trivial | clear H
    refine callK_pureL (indexT_ok (gl := gl) ns t (by omega)) rfl ?_ ?_ ?_ <;> simp only [go_sem, seval, reduceCtorEq, nz_id, nx_id, hg, pbox]
    have H := And.intro @nz_id (And.intro @nx_id (And.intro @hg @e))
    refine goB ?_
    first | exact trivial | clear H
    refine ⟨AV.le_agg ⟨.refl _, .refl _, AV.le_list' _, trivial⟩, ?_⟩
    have H := And.intro @nz_id (And.intro @nx_id @hg)
    exact cutA
theorem binary_ok (hsg : gl.at' 3 = signsA) (har : gl.at' 0 = arityA) (hst : gl.at' 1 = strengthA) (hri : gl.at' 2 = rightA) {n : Nat}
    (hp : PreOK gl n) (hbn : ∀ m, m ≤ n → BinOK gl m) : BinOK gl (n + 1) := by
  intro id ns l l' least f σ h hns hl hg
  cases e : parF ns n .pre l with
  | none => simp only [parF, e] at h; cases h
  | some p =>
  obtain ⟨f1, l1⟩ := p
  have hlp : parF ns n (.loop least f1) l1 = some (f, l') := by simpa only [parF, e] using h
  have hsg' : (C gl).gl 3 = signsA := hsg
  have har' : (C gl).gl 0 = arityA := har
  have hst' : (C gl).gl 1 = strengthA := hst
  have hri' : (C gl).gl 2 = rightA := hri
  refine callX_of b97 (by simp [Tryd.ntmps97]) ?_
  refine W.of ?_
  rw [Tryd.ntmps97]
  simp only [toK, codeOf, Tryd.f97, go_sem, seval, reduceCtorEq]
  have nz_id : (id = σ.next) = False := by simp; omega
  have nx_id : ∀ j, (id = σ.next + j) = False := fun j => by simp; omega
  have H := And.intro @nz_id (And.intro @nx_id @hg)
  refine goB ?_
  first | exact trivial | clear H
  refine callK_x0 (hp id ns l l1 f1 _ e hns ltsA (by simp only [go_sem, seval, reduceCtorEq, nz_id, nx_id, hg, pbox]; first | done | omega)) rfl ?_ ?_ ?_ <;> simp only [go_sem, seval, reduceCtorEq, nz_id, nx_id, hg, pbox, encF_eq]
  have H := And.intro @nz_id (And.intro @nx_id @hg)
  refine goB ?_
  first | exact trivial | clear H
  refine WK.block ?_
  refine WK.loopX [0, 1, 4, 5] [] (fun _ : Nat × Fm × List Bs => []) (fun s => ((σ.set id (pbox ns s.2.2)).add (.box [.int .i64 0, .int .i64 0, .list true []])).add (.box [.int .i64 s.2.1.op, .int .i64 s.2.1.var, .list false (encFs s.2.1.args)])) (fun s => s.1 ≤ n ∧ parF ns s.1 (.loop least s.2.1) s.2.2 = some (f, l')) (fun s => s.1) (n, f1, l1) (by decide) ⟨Nat.le_refl _, hlp⟩ (by simp only [go_sem, seval, reduceCtorEq]) (by rfl) ?_
  rintro ⟨m, g, k⟩ ⟨hm, hI⟩
  simp only at hm hI
  cases m with
  | zero => simp only [parF] at hI; cases hI
  | succ m =>
  simp only [go_sem, seval, reduceCtorEq]
  have H := And.intro @nz_id (And.intro @nx_id @hg)
  refine goB ?_
  first | exact trivial | clear H
  refine callK_x0 (now_ok (gl := gl) id ns k _ (by simp only [go_sem, seval, reduceCtorEq, nz_id, nx_id, hg, pbox]; first | done | omega)) rfl ?_ ?_ ?_ <;> simp only [go_sem, seval, reduceCtorEq, nz_id, nx_id, hg, pbox]
  have H := And.intro @nz_id (And.intro @nx_id @hg)
  refine goB ?_
  first | exact trivial | clear H
  refine callK_pureL (operator_ok hsg (nowS k)) rfl ?_ ?_ ?_ <;> simp only [go_sem, seval, reduceCtorEq, nz_id, nx_id, hg, pbox]
  have H := And.intro @nz_id (And.intro @nx_id @hg)
  refine goB ?_
  first | exact trivial | clear H
  cases q1 : decide (opS (nowS k) < 0) with
  | true =>
    have hs : stops least (opS (nowS k)) = true := by unfold stops; rw [q1]; rfl
    have hh : some (g, k) = some (f, l') := by simpa only [parF, hs, if_true] using hI
    cases hh
    have H := And.intro @nz_id (And.intro @nx_id (And.intro @hg @q1))
    refine goB ?_
    first | exact trivial | clear H
    have H := And.intro @nz_id (And.intro @nx_id @hg)
    exact cutA
  | false =>
  obtain ⟨o, ho, ho14⟩ : ∃ o : Nat, opS (nowS k) = (o : Int) ∧ o < 14 := opS_nat (of_decide_eq_false q1)
  rw [ho] at q1
  have g1 := getD_map' (AV.int .i64) arityL 0 (i := o) ho14
  have g2 := getD_map' (AV.int .i64) strengthL 0 (i := o) ho14
  have g3 := getD_map' AV.bool rightL false (i := o) ho14
  have g1 : arityA.getD o .undef = _ := g1
  have g2 : strengthA.getD o .undef = _ := g2
  have g3 : rightA.getD o .undef = _ := g3
  have n1 : arityA.length = 14 := rfl
  have n2 : strengthA.length = 14 := rfl
  have n3 : rightA.length = 14 := rfl
  cases q2 : (arityL.getD o 0 == 2) with
  | false =>
    have hs : stops least (opS (nowS k)) = true := by unfold stops; rw [ho, Int.toNat_natCast, q2]; simp
    have hh : some (g, k) = some (f, l') := by simpa only [parF, hs, if_true] using hI
    cases hh
    have H := And.intro @nz_id (And.intro @nx_id (And.intro @hg (And.intro @ho (And.intro @har' (And.intro @hst' (And.intro @hri' (And.intro @g1 (And.intro @g2 (And.intro @g3 (And.intro @n1 (And.intro @n2 (And.intro @n3 (And.intro @q1 @q2)))))))))))))
    refine goB ?_
    first | exact trivial | clear H
    have H := And.intro @nz_id (And.intro @nx_id (And.intro @hg (And.intro @ho (And.intro @har' (And.intro @hst' (And.intro @hri' (And.intro @g1 (And.intro @g2 (And.intro @g3 (And.intro @n1 (And.intro @n2 @n3)))))))))))
    exact cutA
  | true =>
  cases q3 : decide (strengthL.getD o 0 < least) with
  | true =>
    have hs : stops least (opS (nowS k)) = true := by unfold stops; rw [ho, Int.toNat_natCast, q3]; simp
    have hh : some (g, k) = some (f, l') := by simpa only [parF, hs, if_true] using hI
    cases hh
    have H := And.intro @nz_id (And.intro @nx_id (And.intro @hg (And.intro @ho (And.intro @har' (And.intro @hst' (And.intro @hri' (And.intro @g1 (And.intro @g2 (And.intro @g3 (And.intro @n1 (And.intro @n2 (And.intro @n3 (And.intro @q1 (And.intro @q2 @q3))))))))))))))
    refine goB ?_
    first | exact trivial | clear H
    have H := And.intro @nz_id (And.intro @nx_id (And.intro @hg (And.intro @ho (And.intro @har' (And.intro @hst' (And.intro @hri' (And.intro @g1 (And.intro @g2 (And.intro @g3 (And.intro @n1 (And.intro @n2 @n3)))))))))))
    exact cutA
  | false =>
  have hs : stops least (opS (nowS k)) = false := by unfold stops; rw [ho, Int.toNat_natCast, q1, q2, q3]; rfl
  cases k with
  | nil => exact absurd ho (by show (-1 : Int) ≠ o; omega)
  | cons t k =>
  have ht : (t == []) = false := by
    cases hz : (t == []) with
    | false => rfl
    | true =>
      have : opS (nowS (t :: k)) = -1 := by show (if t == [] then (-1 : Int) else _) = _; rw [hz]; rfl
      omega
  cases e2 : parF ns m (.bin (nxt (opS (nowS (t :: k))))) k with
  | none => simp only [parF, hs, Bool.false_eq_true, if_false, List.drop_succ_cons, List.drop_zero, e2] at hI; cases hI
  | some p =>
  obtain ⟨gg, l2⟩ := p
  have hI2 : parF ns m (.loop least (.mk (opS (nowS (t :: k))) 0 [g, gg])) l2 = some (f, l') := by simpa only [parF, hs, Bool.false_eq_true, if_false, List.drop_succ_cons, List.drop_zero, e2] using hI
  rw [ho] at e2 hI2
  have sb := strength_le o ho14
  have w1 : IntKind.i64.wrap (strengthL.getD o 0 + 1) = strengthL.getD o 0 + 1 := wrap_lt (by omega) (by omega)
  have w2 : IntKind.i64.wrap (strengthL.getD o 0 + 1 - 1) = strengthL.getD o 0 := by rw [wrap_lt (by omega) (by omega)]; omega
  have H := And.intro @nz_id (And.intro @nx_id (And.intro @hg (And.intro @ho (And.intro @har' (And.intro @hst' (And.intro @hri' (And.intro @g1 (And.intro @g2 (And.intro @g3 (And.intro @n1 (And.intro @n2 (And.intro @n3 (And.intro @q1 (And.intro @q2 @q3))))))))))))))
  refine goB ?_
  first | exact trivial | clear H
  refine callK_x0 (step_ok (gl := gl) id ns t k ht _ ltsA (by simp only [go_sem, seval, reduceCtorEq, nz_id, nx_id, hg, pbox, ho, har', hst', hri', g1, g2, g3, bne, n1, n2, n3]; first | done | omega)) rfl ?_ ?_ ?_ <;> simp only [go_sem, seval, reduceCtorEq, nz_id, nx_id, hg, pbox, ho, har', hst', hri', g1, g2, g3, bne, n1, n2, n3]
  have H := And.intro @nz_id (And.intro @nx_id (And.intro @hg (And.intro @ho (And.intro @har' (And.intro @hst' (And.intro @hri' (And.intro @g1 (And.intro @g2 (And.intro @g3 (And.intro @n1 (And.intro @n2 (And.intro @n3 @w1))))))))))))
  refine goB ?_
  first | exact trivial | clear H
  cases q4 : rightL.getD o false with
  | true =>
    have e4 : nxt (o : Int) = strengthL.getD o 0 := by unfold nxt; rw [Int.toNat_natCast, q4]; rfl
    rw [e4] at e2
    have H := And.intro @nz_id (And.intro @nx_id (And.intro @hg (And.intro @ho (And.intro @har' (And.intro @hst' (And.intro @hri' (And.intro @g1 (And.intro @g2 (And.intro @g3 (And.intro @n1 (And.intro @n2 (And.intro @n3 (And.intro @w1 (And.intro @w2 @q4))))))))))))))
    refine goB ?_
    first | exact trivial | clear H
    refine callK_x0 (hbn m (by omega) id ns k l2 (strengthL.getD o 0) gg _ e2 hns ltsA (by simp only [go_sem, seval, reduceCtorEq, nz_id, nx_id, hg, pbox, ho, har', hst', hri', g1, g2, g3, bne, n1, n2, n3]; first | done | omega)) rfl ?_ ?_ ?_ <;> simp only [go_sem, seval, reduceCtorEq, nz_id, nx_id, hg, pbox, ho, har', hst', hri', g1, g2, g3, bne, n1, n2, n3, encF_eq]
    have H := And.intro @nz_id (And.intro @nx_id (And.intro @hg (And.intro @ho (And.intro @har' (And.intro @hst' (And.intro @hri' (And.intro @g1 (And.intro @g2 (And.intro @g3 (And.intro @n1 (And.intro @n2 @n3)))))))))))
    refine goB ?_
    first | exact trivial | clear H
    refine callK_pureL (make_ok (gl := gl) true o [g, gg]) rfl ?_ ?_ ?_ <;> simp only [go_sem, seval, reduceCtorEq, nz_id, nx_id, hg, pbox, ho, har', hst', hri', g1, g2, g3, bne, n1, n2, n3, encF_eq, encFs]
    have H := And.intro @nz_id (And.intro @nx_id (And.intro @hg (And.intro @ho (And.intro @har' (And.intro @hst' (And.intro @hri' (And.intro @g1 (And.intro @g2 (And.intro @g3 (And.intro @n1 (And.intro @n2 @n3)))))))))))
    refine goB ?_
    first | exact trivial | clear H
    refine ⟨(m, .mk o 0 [g, gg], l2), ⟨by simp only; omega, hI2⟩, Nat.lt_succ_self m, ?_⟩
    simp only [pbox, fm_op, fm_var, fm_args, encFs, encF_eq] at hg ⊢
    have H := And.intro @nz_id (And.intro @nx_id (And.intro @hg (And.intro @ho (And.intro @har' (And.intro @hst' (And.intro @hri' (And.intro @g1 (And.intro @g2 (And.intro @g3 (And.intro @n1 (And.intro @n2 @n3)))))))))))
    exact cutA
  | false =>
    have e4 : nxt (o : Int) = strengthL.getD o 0 + 1 := by unfold nxt; rw [Int.toNat_natCast, q4]; rfl
    rw [e4] at e2
    have H := And.intro @nz_id (And.intro @nx_id (And.intro @hg (And.intro @ho (And.intro @har' (And.intro @hst' (And.intro @hri' (And.intro @g1 (And.intro @g2 (And.intro @g3 (And.intro @n1 (And.intro @n2 (And.intro @n3 (And.intro @w1 (And.intro @w2 @q4))))))))))))))
    refine goB ?_
    first | exact trivial | clear H
    refine callK_x0 (hbn m (by omega) id ns k l2 (strengthL.getD o 0 + 1) gg _ e2 hns ltsA (by simp only [go_sem, seval, reduceCtorEq, nz_id, nx_id, hg, pbox, ho, har', hst', hri', g1, g2, g3, bne, n1, n2, n3]; first | done | omega)) rfl ?_ ?_ ?_ <;> simp only [go_sem, seval, reduceCtorEq, nz_id, nx_id, hg, pbox, ho, har', hst', hri', g1, g2, g3, bne, n1, n2, n3, encF_eq]
    have H := And.intro @nz_id (And.intro @nx_id (And.intro @hg (And.intro @ho (And.intro @har' (And.intro @hst' (And.intro @hri' (And.intro @g1 (And.intro @g2 (And.intro @g3 (And.intro @n1 (And.intro @n2 @n3)))))))))))
    refine goB ?_
    first | exact trivial | clear H
    refine callK_pureL (make_ok (gl := gl) true o [g, gg]) rfl ?_ ?_ ?_ <;> simp only [go_sem, seval, reduceCtorEq, nz_id, nx_id, hg, pbox, ho, har', hst', hri', g1, g2, g3, bne, n1, n2, n3, encF_eq, encFs]
    have H := And.intro @nz_id (And.intro @nx_id (And.intro @hg (And.intro @ho (And.intro @har' (And.intro @hst' (And.intro @hri' (And.intro @g1 (And.intro @g2 (And.intro @g3 (And.intro @n1 (And.intro @n2 @n3)))))))))))
    refine goB ?_
    first | exact trivial | clear H
    refine ⟨(m, .mk o 0 [g, gg], l2), ⟨by simp only; omega, hI2⟩, Nat.lt_succ_self m, ?_⟩
    simp only [pbox, fm_op, fm_var, fm_args, encFs, encF_eq] at hg ⊢
    have H := And.intro @nz_id (And.intro @nx_id (And.intro @hg (And.intro @ho (And.intro @har' (And.intro @hst' (And.intro @hri' (And.intro @g1 (And.intro @g2 (And.intro @g3 (And.intro @n1 (And.intro @n2 @n3)))))))))))
    exact cutA
theorem parse_all (hsg : gl.at' 3 = signsA) (har : gl.at' 0 = arityA) (hst : gl.at' 1 = strengthA) (hri : gl.at' 2 = rightA) : ∀ n, PreOK gl n ∧ ∀ m, m ≤ n → BinOK gl m
  | 0 => by
    refine ⟨fun id ns l l' f σ h => by (simp only [parF] at h; cases h), fun m hm => ?_⟩
    have hm0 : m = 0 := by omega
    subst hm0
    intro id ns l l' least f σ h
    simp only [parF] at h
    cases h
  | n + 1 => by
    obtain ⟨h1, h2⟩ := parse_all hsg har hst hri n
    refine ⟨prefix_ok hsg h1 (h2 n (Nat.le_refl _)), fun m hm => ?_⟩
    by_cases e : m = n + 1
    · subst e; exact binary_ok hsg har hst hri h1 h2
    · exact h2 m (by omega)
end
end Go.Sx
