import Derived.Test.YtndchmmclfidgaaDoorLtlA
set_option maxRecDepth 100000
set_option linter.unusedSimpArgs false
set_option linter.unusedVariables false
set_option linter.unnecessarySimpa false
namespace Go.Sx
open Go Go.Lg Go.Proofs
theorem b57 {gl : GL} : Body (C gl).P 57 Tryd.f57 (codeOf Tryd.f57) := ⟨Tryd.func57, by kernel_rfl, by kernel_rfl⟩

def arityL : List Int := [0, 0, 0, 1, 2, 2, 2, 2, 1, 1, 1, 2, 2, 2]
def arityA : List AV := arityL.map (AV.int .i64)
def okNode (n : Int) (g : Fm) : Bool :=
  decide (0 ≤ g.op) && decide (g.op ≤ 13) && decide ((g.args.length : Int) = arityL.getD g.op.toNat 0) &&
  (if g.op = 2 then decide (0 ≤ g.var) && decide (g.var < n) else decide (g.var = 0))
def vStep (n : Int) (t : Nat × Bool) (g : Fm) : Nat × Bool := (t.1 + 1, decide (t.1 + 1 ≤ 60) && okNode n g)
def validF (f : Fm) (n : Int) : Bool := decide (0 ≤ n) && decide (n ≤ 6) && (handT (vStep n) (·.2) (0, true) (nodesF f)).2

theorem vStep_snd (n : Int) (t : Nat × Bool) (o v : Int) (l : List Fm) : (vStep n t (.mk o v l)).2 = true ↔ t.1 + 1 ≤ 60 ∧ 0 ≤ o ∧ o ≤ 13 ∧ (l.length : Int) = arityL.getD o.toNat 0 ∧ (o = 2 → 0 ≤ v ∧ v < n) ∧ (o ≠ 2 → v = 0) := by
  change (decide (t.1 + 1 ≤ 60) && (decide (0 ≤ o) && decide (o ≤ 13) && decide ((l.length : Int) = arityL.getD o.toNat 0) && (if o = 2 then decide (0 ≤ v) && decide (v < n) else decide (v = 0)))) = true ↔ _
  simp only [Bool.and_eq_true, decide_eq_true_eq]
  by_cases h : o = 2
  · subst h; simp only [if_true, Bool.and_eq_true, decide_eq_true_eq, ne_eq, not_true, false_implies, and_true, true_implies, and_assoc]
  · simp only [h, if_false, decide_eq_true_eq, ne_eq, not_false_eq_true, true_implies, false_implies, true_and, and_assoc]

section
variable {gl : GL}
theorem valid_ok (har : gl.at' 0 = arityA) (f : Fm) (hs : Shrt f) (n : Int) : PCall (C gl) 57 [encF f, .int .i64 n] (.bool (validF f n)) := by
  refine pcall_of b57 (by simp [Tryd.ntmps57]) (by simp; exact ⟨closedF _, .int _ _⟩) (.bool _) ?_
  refine W.of ?_
  rw [Tryd.ntmps57]
  simp only [toK, codeOf, Tryd.f57, go_sem, seval, reduceCtorEq]
  obtain ⟨o, v, l⟩ := f
  refine WK.seq (WK.reg ?_)
  simp only [go_sem, seval, reduceCtorEq, encF]
  refine WK.seq (WK.seq (WK.reg ?_))
  simp only [go_sem, seval, reduceCtorEq]
  have hleft : ¬ (0 ≤ n ∧ n ≤ 6) → validF (.mk o v l) n = false := fun h => by
    simp only [validF, ← Bool.decide_and, h, decide_false, Bool.false_and]
  by_cases h0 : n < 0
  · simp only [go_sem, seval, reduceCtorEq, h0, decide_true]
    refine WK.cond true (by simp only [go_sem, seval, reduceCtorEq]) (fun _ => ?_) (fun h => by cases h)
    refine WK.seq (WK.reg ?_)
    simp only [go_sem, seval, reduceCtorEq]
    refine WK.ret ?_
    rw [hleft (by omega)]
    simp only [go_sem, seval, reduceCtorEq]
  simp only [go_sem, seval, reduceCtorEq, h0, decide_false]
  by_cases h6 : n > 6
  · refine WK.cond true (by simp [go_sem, h6]) (fun _ => ?_) (fun h => by cases h)
    refine WK.seq (WK.reg ?_)
    simp only [go_sem, seval, reduceCtorEq]
    refine WK.ret ?_
    rw [hleft (by omega)]
    simp only [go_sem, seval, reduceCtorEq]
  refine WK.cond false (by simp [go_sem, h6]) (fun h => by cases h) (fun _ => ?_)
  refine WK.skip ?_
  simp only [go_sem, seval, reduceCtorEq]
  refine WK.seq (WK.reg ?_)
  simp only [go_sem, seval, reduceCtorEq]
  refine WK.seq (WK.seq (WK.reg ?_))
  simp only [go_sem, seval, reduceCtorEq]
  refine callK_gen b111 (args := [encF (.mk o v l)]) (nodes_ok (.mk o v l) _) rfl (by simp only [go_sem, seval, reduceCtorEq]) (by simp only [go_sem, seval, reduceCtorEq, encF]) ?_
  simp only [go_sem, seval, reduceCtorEq, encF]
  refine WK.block ?_
  refine WK.rangeFunc (caps := [.ptr 4 0]) (by simp only [go_sem, seval, reduceCtorEq]) b172 (fun _ h => by cases h) ?_
  intro L hLn hLe hLp hLa hLb
  simp only [toK, go_sem, seval, reduceCtorEq] at hLa hLb ⊢
  let I : Nat × Bool → Sto → Prop := fun t σ => 6 ≤ σ.next ∧ t.1 ≤ 61 ∧ σ.get 1 = some (.box [.int .i64 n]) ∧ σ.get 2 = some (.box [.bool false]) ∧ σ.get 3 = some (.box [.int .i64 t.1]) ∧
    σ.get 5 = some (.loop L (if t.2 = true then .ready else .done) (if t.2 = true then none else some .ret)) ∧ (t.2 = true → t.1 ≤ 60)
  have ht : Taker (C gl) 5 6 I (vStep n) (·.2) hand (nodesF (.mk o v l)) := {
    lt := by decide
    stable := fun t σ σ' ⟨h1, h2, h3, h4, h5, h6, h7⟩ hk hn => ⟨hn, h2, by rw [hk 1 (by decide)]; exact h3, by rw [hk 2 (by decide)]; exact h4, by rw [hk 3 (by decide)]; exact h5, by rw [hk 5 (by decide)]; exact h6, h7⟩
    next := fun t σ h => h.1
    take := by
      rintro ⟨many, ok⟩ σ x hx ⟨h1, h2, h3, h4, h5, h6, h7⟩ hgo
      simp only at hgo
      subst hgo
      simp only [go_sem, seval, reduceCtorEq] at h6 h7
      suffices h : ∃ b σ', YStep (C gl) 5 (hand x) σ b σ' ∧ (b = (vStep n (many, true) x).2 ∧ I (vStep n (many, true) x) σ' ∧ Kept 6 σ σ') by
        obtain ⟨b, σ', h1, rfl, h2⟩ := h; exact ⟨σ', h1, h2⟩
      refine yStep_of h6 (by rw [hLp]; rfl) ?_
      rw [hLa, hLb, hLn, hLe, hLp]
      obtain ⟨o', v', l'⟩ := x
      have e1 : (1 = σ.next) = False := by simp; omega
      have e2 : (2 = σ.next) = False := by simp; omega
      have e3 : (3 = σ.next) = False := by simp; omega
      have e5 : (5 = σ.next) = False := by simp; omega
      have e1' : (σ.next = 1) = False := by simp; omega
      have e2' : (σ.next = 2) = False := by simp; omega
      have e3' : (σ.next = 3) = False := by simp; omega
      have e5' : (σ.next = 5) = False := by simp; omega
      refine WK.reg ?_
      simp only [go_sem, seval, reduceCtorEq, hand, encF, bindP, e5, h6]
      refine ⟨_, rfl, ?_⟩
      refine WK.block (WK.seq (WK.reg ?_))
      simp only [go_sem, seval, reduceCtorEq, e3, h5]
      refine WK.seq (WK.seq ?_)
      refine WK.draw0 mixed (by kernel_rfl) ?_
      clear hLa hLb
      have h1' : 6 ≤ σ.next + 1 := by omega
      have hw : IntKind.i64.wrap ((many : Int) + 1) = ((many + 1 : Nat) : Int) := by rw [wrap_lt (by omega) (by omega)]; rfl
      -- a node that is refused: false is stored, the round returns
      have fin : ∀ (b : Bool) (σ' : Sto), b = (vStep n (many, true) (.mk o' v' l')).2 → I (vStep n (many, true) (.mk o' v' l')) σ' → Kept 6 σ σ' → b = (vStep n (many, true) (.mk o' v' l')).2 ∧ I (vStep n (many, true) (.mk o' v' l')) σ' ∧ Kept 6 σ σ' := fun b σ' h1 h2 h3 => ⟨h1, h2, h3⟩
      have hkept : ∀ (f : AObj) (x y : AObj), Kept 6 σ (((σ.add f).set 5 x).set 3 y) := fun f x y => ((Kept.add 6 σ f).set 5 x (by omega)).set 3 y (by omega)
      have h7 : many ≤ 60 := h7 trivial
      have o60 : many + 1 ≤ 61 := by omega
      have hno : ¬ (many + 1 ≤ 60 ∧ 0 ≤ o' ∧ o' ≤ 13 ∧ (l'.length : Int) = arityL.getD o'.toNat 0 ∧ (o' = 2 → 0 ≤ v' ∧ v' < n) ∧ (o' ≠ 2 → v' = 0)) → (vStep n (many, true) (.mk o' v' l')).2 = false := fun h =>
        Bool.eq_false_iff.2 fun h2 => h ((vStep_snd n (many, true) o' v' l').1 h2)
      by_cases hm : many + 1 > 60
      · have hb : (((many + 1 : Nat) : Int) > 60) = True := by simp; omega
        simp only [go_sem, seval, reduceCtorEq, e3, e3', e5', e2', h5, hw, hb, decide_true]
        have hv : (vStep n (many, true) (.mk o' v' l')).2 = false := hno fun h => by omega
        refine WK.cond true (by simp only [go_sem, seval, reduceCtorEq]) (fun _ => ?_) (fun h => by cases h)
        refine WK.seq (WK.reg ?_)
        simp only [go_sem, seval, reduceCtorEq, e2, h4]
        refine WK.ret ?_
        simp only [go_sem, seval, reduceCtorEq, e5, e5', jumpC]
        refine ⟨⟨_, rfl⟩, _, rfl, hv.symm, ⟨h1', o60, ?_⟩, ((((Kept.add 6 σ _).set 5 _ (by omega)).set 3 _ (by omega)).set 2 _ (by omega)).set 5 _ (by omega)⟩
        simp [Sto.get_set, Sto.get_add, e1, e1', e2, e2', e3, e3', e5, e5', h3, h4, hv]
        rfl
      have hb : (((many + 1 : Nat) : Int) > 60) = False := by simp; omega
      have hm' : many + 1 ≤ 60 := by omega
      by_cases ho : o' < 0
      · simp only [go_sem, seval, reduceCtorEq, e3, e3', e5', e2', h5, hw, hb, decide_true, decide_false, ho]
        have hv : (vStep n (many, true) (.mk o' v' l')).2 = false := hno fun h => by omega
        refine WK.cond true (by simp only [go_sem, seval, reduceCtorEq]) (fun _ => ?_) (fun h => by cases h)
        refine WK.seq (WK.reg ?_)
        simp only [go_sem, seval, reduceCtorEq, e2, h4]
        refine WK.ret ?_
        simp only [go_sem, seval, reduceCtorEq, e5, e5', jumpC]
        refine ⟨⟨_, rfl⟩, _, rfl, hv.symm, ⟨h1', o60, ?_⟩, ((((Kept.add 6 σ _).set 5 _ (by omega)).set 3 _ (by omega)).set 2 _ (by omega)).set 5 _ (by omega)⟩
        simp [Sto.get_set, Sto.get_add, e1, e1', e2, e2', e3, e3', e5, e5', h3, h4, hv]
        rfl
      by_cases ho2 : o' > 13
      · simp only [go_sem, seval, reduceCtorEq, e3, e3', e5', e2', h5, hw, hb, decide_true, decide_false, ho, ho2]
        have hv : (vStep n (many, true) (.mk o' v' l')).2 = false := hno fun h => by omega
        refine WK.cond true (by simp only [go_sem, seval, reduceCtorEq]) (fun _ => ?_) (fun h => by cases h)
        refine WK.seq (WK.reg ?_)
        simp only [go_sem, seval, reduceCtorEq, e2, h4]
        refine WK.ret ?_
        simp only [go_sem, seval, reduceCtorEq, e5, e5', jumpC]
        refine ⟨⟨_, rfl⟩, _, rfl, hv.symm, ⟨h1', o60, ?_⟩, ((((Kept.add 6 σ _).set 5 _ (by omega)).set 3 _ (by omega)).set 2 _ (by omega)).set 5 _ (by omega)⟩
        simp [Sto.get_set, Sto.get_add, e1, e1', e2, e2', e3, e3', e5, e5', h3, h4, hv]
        rfl
      have har : (C gl).gl 0 = arityA := har
      have hlt : o'.toNat < 14 := by omega
      have hget : arityA.getD o'.toNat .undef = .int .i64 (arityL.getD o'.toNat 0) := by
        unfold arityA
        rw [List.getD_eq_getElem?_getD, List.getD_eq_getElem?_getD, List.getElem?_map]
        cases h : arityL[o'.toNat]? with
        | none => simp [arityL] at h; omega
        | some x => rfl
      have hal : arityA.length = 14 := rfl
      have hidx : (0 ≤ o' ∧ o' < 14) = True := by simp; omega
      simp only [go_sem, seval, reduceCtorEq, e3, e3', e5', e2', h5, hw, hb, decide_true, decide_false, ho, ho2, har, encFs_len, hget, hal]
      refine ⟨by omega, by omega, ?_⟩
      by_cases hlen : (l'.length : Int) = arityL.getD o'.toNat 0
      · have hne : ((l'.length : Int) != arityL.getD o'.toNat 0) = false := by simp [hlen]
        simp only [go_sem, seval, reduceCtorEq, hne]
        refine WK.cond false (by simp only [go_sem, seval, reduceCtorEq]) (fun h => by cases h) (fun _ => ?_)
        refine WK.skip ?_
        simp only [go_sem, seval, reduceCtorEq]
        refine WK.seq (WK.reg ?_)
        by_cases ho3 : o' = 2
        · have hb3 : (o' == 2) = true := by simp [ho3]
          have hb4 : (o' != 2) = false := by simp [ho3]
          by_cases hv0 : v' < 0
          · simp only [go_sem, seval, reduceCtorEq, e3, e3', e5', e2', h5, hw, hb3, hb4, hv0, decide_true]
            have hv : (vStep n (many, true) (.mk o' v' l')).2 = false := hno fun h => by omega
            refine WK.cond true (by simp only [go_sem, seval, reduceCtorEq]) (fun _ => ?_) (fun h => by cases h)
            refine WK.seq (WK.reg ?_)
            simp only [go_sem, seval, reduceCtorEq, e2, h4]
            refine WK.ret ?_
            simp only [go_sem, seval, reduceCtorEq, e5, e5', jumpC]
            refine ⟨⟨_, rfl⟩, _, rfl, hv.symm, ⟨h1', o60, ?_⟩, ((((Kept.add 6 σ _).set 5 _ (by omega)).set 3 _ (by omega)).set 2 _ (by omega)).set 5 _ (by omega)⟩
            simp [Sto.get_set, Sto.get_add, e1, e1', e2, e2', e3, e3', e5, e5', h3, h4, hv]
            rfl
          · by_cases hvn : v' ≥ n
            · simp only [go_sem, seval, reduceCtorEq, e3, e3', e5', e2', e1, h3, h5, hw, hb3, hb4, hv0, hvn, decide_true, decide_false]
              have hv : (vStep n (many, true) (.mk o' v' l')).2 = false := hno fun h => by omega
              refine WK.cond true (by simp only [go_sem, seval, reduceCtorEq]) (fun _ => ?_) (fun h => by cases h)
              refine WK.seq (WK.reg ?_)
              simp only [go_sem, seval, reduceCtorEq, e2, h4]
              refine WK.ret ?_
              simp only [go_sem, seval, reduceCtorEq, e5, e5', jumpC]
              refine ⟨⟨_, rfl⟩, _, rfl, hv.symm, ⟨h1', o60, ?_⟩, ((((Kept.add 6 σ _).set 5 _ (by omega)).set 3 _ (by omega)).set 2 _ (by omega)).set 5 _ (by omega)⟩
              simp [Sto.get_set, Sto.get_add, e1, e1', e2, e2', e3, e3', e5, e5', h3, h4, hv]
              rfl
            · simp only [go_sem, seval, reduceCtorEq, e3, e3', e5', e2', e1, h3, h5, hw, hb3, hb4, hv0, hvn, decide_true, decide_false]
              have hv : (vStep n (many, true) (.mk o' v' l')).2 = true := (vStep_snd n (many, true) o' v' l').2 ⟨by omega, by omega, by omega, hlen, fun _ => by omega, fun h => absurd ho3 h⟩
              refine WK.cond false (by simp only [go_sem, seval, reduceCtorEq]) (fun h => by cases h) (fun _ => ?_)
              refine WK.skip ?_
              simp only [go_sem, seval, reduceCtorEq, e5, e5', jumpC]
              refine ⟨⟨_, rfl⟩, _, rfl, hv.symm, ⟨h1', o60, ?_⟩, (((Kept.add 6 σ _).set 5 _ (by omega)).set 3 _ (by omega)).set 5 _ (by omega)⟩
              simp [Sto.get_set, Sto.get_add, e1, e1', e2, e2', e3, e3', e5, e5', h3, h4, hv]
              exact ⟨rfl, by simp only [vStep]; omega⟩
        · have hb3 : (o' == 2) = false := by simp [ho3]
          have hb4 : (o' != 2) = true := by simp [ho3]
          by_cases hv0 : v' = 0
          · have hb5 : (v' != 0) = false := by simp [hv0]
            simp only [go_sem, seval, reduceCtorEq, e3, e3', e5', e2', h5, hw, hb3, hb4, hb5, decide_true, decide_false]
            have hv : (vStep n (many, true) (.mk o' v' l')).2 = true := (vStep_snd n (many, true) o' v' l').2 ⟨by omega, by omega, by omega, hlen, fun h => absurd h ho3, fun _ => hv0⟩
            refine WK.cond false (by simp only [go_sem, seval, reduceCtorEq]) (fun h => by cases h) (fun _ => ?_)
            refine WK.skip ?_
            simp only [go_sem, seval, reduceCtorEq, e5, e5', jumpC]
            refine ⟨⟨_, rfl⟩, _, rfl, hv.symm, ⟨h1', o60, ?_⟩, (((Kept.add 6 σ _).set 5 _ (by omega)).set 3 _ (by omega)).set 5 _ (by omega)⟩
            simp [Sto.get_set, Sto.get_add, e1, e1', e2, e2', e3, e3', e5, e5', h3, h4, hv]
            exact ⟨rfl, by simp only [vStep]; omega⟩
          · have hb5 : (v' != 0) = true := by simp [hv0]
            simp only [go_sem, seval, reduceCtorEq, e3, e3', e5', e2', h5, hw, hb3, hb4, hb5, decide_true, decide_false]
            have hv : (vStep n (many, true) (.mk o' v' l')).2 = false := hno fun h => hv0 (h.2.2.2.2.2 ho3)
            refine WK.cond true (by simp only [go_sem, seval, reduceCtorEq]) (fun _ => ?_) (fun h => by cases h)
            refine WK.seq (WK.reg ?_)
            simp only [go_sem, seval, reduceCtorEq, e2, h4]
            refine WK.ret ?_
            simp only [go_sem, seval, reduceCtorEq, e5, e5', jumpC]
            refine ⟨⟨_, rfl⟩, _, rfl, hv.symm, ⟨h1', o60, ?_⟩, ((((Kept.add 6 σ _).set 5 _ (by omega)).set 3 _ (by omega)).set 2 _ (by omega)).set 5 _ (by omega)⟩
            simp [Sto.get_set, Sto.get_add, e1, e1', e2, e2', e3, e3', e5, e5', h3, h4, hv]
            rfl
      · have hne : ((l'.length : Int) != arityL.getD o'.toNat 0) = true := by simpa using hlen
        simp only [go_sem, seval, reduceCtorEq, hne]
        have hv : (vStep n (many, true) (.mk o' v' l')).2 = false := hno fun h => hlen h.2.2.2.1
        refine WK.cond true (by simp only [go_sem, seval, reduceCtorEq]) (fun _ => ?_) (fun h => by cases h)
        refine WK.seq (WK.reg ?_)
        simp only [go_sem, seval, reduceCtorEq, e2, h4]
        refine WK.ret ?_
        simp only [go_sem, seval, reduceCtorEq, e5, e5', jumpC]
        refine ⟨⟨_, rfl⟩, _, rfl, hv.symm, ⟨h1', o60, ?_⟩, ((((Kept.add 6 σ _).set 5 _ (by omega)).set 3 _ (by omega)).set 2 _ (by omega)).set 5 _ (by omega)⟩
        simp [Sto.get_set, Sto.get_add, e1, e1', e2, e2', e3, e3', e5, e5', h3, h4, hv]
        rfl
      }
  clear hLa hLb hLe hLn hLp
  have hh : 0 ≤ n ∧ n ≤ 6 := by omega
  have hval : validF (.mk o v l) n = (handT (vStep n) (·.2) (0, true) (nodesF (.mk o v l))).2 := by simp [validF, hh.1, hh.2]
  rw [hval]
  refine ex2 (nodes1_ok (.mk o v l) hs ht 4 (0, true) _ ?_ ?_ ?_ rfl) ?_
  · simp [Sto.get_add, Sto.next_add, Sto.next_none, Sto.get_set, Sto.next_set, Sto.get_none, encF, AV.cells]
  · simp [Sto.next_add, Sto.next_none, Sto.next_set]
  · simp [I, Sto.get_add, Sto.next_add, Sto.next_none, Sto.get_set, Sto.next_set, Sto.get_none]
  rintro σ1 ⟨⟨g1, g2, g3, g4, g5, g6, g7⟩, h3⟩
  cases hok : (handT (vStep n) (·.2) (0, true) (nodesF (.mk o v l))).2 with
  | true =>
    simp only [hok, if_true] at g6
    refine ⟨_, _, .normal, g6, by decide, rfl, ?_⟩
    simp only [go_sem, seval, reduceCtorEq]
    refine WK.seq (WK.reg ?_)
    simp only [go_sem, seval, reduceCtorEq, g4]
    refine WK.ret ?_
    simp only [go_sem, seval, reduceCtorEq]
  | false =>
    simp only [hok, Bool.false_eq_true, if_false] at g6
    refine ⟨_, _, .ret, g6, by decide, rfl, ?_⟩
    simp only [go_sem, seval, reduceCtorEq, g4]
end
end Go.Sx
