import Derived.Test.YtlhdjjnjhpfgoaaDoorQTkP
import Derived.Test.YtlhdjjnjhpfgoaaDoorLgAv
set_option maxRecDepth 100000
set_option maxHeartbeats 4000000
set_option linter.unusedSimpArgs false
set_option linter.unusedVariables false
set_option linter.unnecessarySimpa false
namespace Go.Sx
open Go Go.Lg Go.Proofs
section
variable {gl : GL}
theorem keptX_pick {env : Env} {ts : List Nat} : ∀ {us : List Nat}, (∀ t ∈ us, t ∈ ts) → keptX (pick env ts) env us
  | [], _ => trivial
  | u :: us, h => ⟨by rw [pick_at (h u List.mem_cons_self)]; exact .refl _, keptX_pick fun t ht => h t (List.mem_cons_of_mem _ ht)⟩
/-- A loop over the nodes of a formula, the loop alone: S tells the store at each state t of the loop; where 'go' is false the loop has returned. -/
theorem WK.forNodesM {T : Type} {nt : Nat} {Q : Exit → Env → Sto → Prop} {env : Env} {σ : Sto} {g : Operand} {ps : Array Tmp} {assign body : Code}
    (f : Fm) (hs : Shrt f) (k : Nat) (S : T → Sto) (step : T → Fm → T) (go : T → Bool) (t0 : T)
    (hg : ev (C gl) nt env g = .fn 47 [.ptr k 0]) (hk : σ.get k = some (.box [.int .i64 f.op, .int .i64 f.var, .list false (encFs f.args)])) (hkl : k < σ.next)
    (hS : S t0 = σ) (hgo : go t0 = true) (hSn : ∀ t, (S t).next = σ.next)
    (hbody : ∀ (L : LoopI) t x σ', L.nt = nt → L.env = env → L.ps = ps → toK L.assign = toK assign → toK L.body = toK body → (∃ p q, nodesF f = p ++ x :: q ∧ t = handT step go t0 p) → go t = true → σ.next < σ'.next → (∀ i, i < σ.next → σ'.get i = (S t).get i) →
      σ'.get σ.next = some (.loop L .ready none) → ∃ b σ2, YStep (C gl) σ.next [encF x] σ' b σ2 ∧ b = go (step t x) ∧
        (σ.next < σ2.next ∧ (∀ i, i < σ.next → σ2.get i = (S (step t x)).get i) ∧ σ2.get σ.next = some (.loop L (if b = true then .ready else .done) (if b = true then none else some .ret))) ∧ Kept (σ.next + 1) σ' σ2)
    (h1 : ∀ (t : T) (σ1 : Sto), t = handT step go t0 (nodesF f) → go t = true → σ.next < σ1.next → (∀ i, i < σ.next → σ1.get i = (S t).get i) → Q .normal env (σ1.del σ.next))
    (h2 : ∀ (t : T) (σ1 : Sto), t = handT step go t0 (nodesF f) → go t = false → (∀ i, i < σ.next → σ1.get i = (S t).get i) → Q .ret env (σ1.del σ.next)) :
    WK (C gl) none nt (.oth (.rangeFunc g ps assign body)) Q env σ := by
  refine WK.rangeFunc hg b47 (fun _ h => by cases h) ?_
  intro L hLn hLe hLp hLa hLb
  let I : T → Sto → Prop := fun t σ' => σ.next + 1 ≤ σ'.next ∧ (∀ i, i < σ.next → σ'.get i = (S t).get i) ∧ σ'.get σ.next = some (.loop L (if go t = true then .ready else .done) (if go t = true then none else some .ret))
  have ht : TakerP (C gl) σ.next (σ.next + 1) I step go hand (fun t x => ∃ p q, nodesF f = p ++ x :: q ∧ t = handT step go t0 p) := {
    lt := Nat.lt_succ_self _
    stable := fun t a b ⟨i1, i2, i3⟩ hk hn => ⟨hn, fun i hi => (hk i (by omega)).trans (i2 i hi), (hk _ (Nat.lt_succ_self _)).trans i3⟩
    next := fun t a h => h.1
    take := by
      rintro t σ' x hx ⟨i1, i2, i3⟩ hg'
      rw [hg', if_pos rfl, if_pos rfl] at i3
      obtain ⟨b, σ2, k1, rfl, k3, k4⟩ := hbody L t x σ' hLn hLe hLp hLa hLb hx hg' (by omega) i2 i3
      exact ⟨σ2, k1, ⟨k3.1, k3.2⟩, k4⟩ }
  refine ex2 (nodesP_ok f hs ht k t0 _ ?_ ?_ ?_ hgo (fun p x q h _ => ⟨p, q, h, rfl⟩)) ?_
  · rw [Sto.get_add, if_neg (by omega), hk, cells_encF]
  · rw [Sto.next_add]; omega
  · refine ⟨by rw [Sto.next_add]; omega, fun i hi => by rw [Sto.get_add, if_neg (by omega), hS], ?_⟩
    rw [Sto.get_add, if_pos rfl, hgo, if_pos rfl, if_pos rfl]
  rintro σ1 ⟨⟨g1, g2, g3⟩, g4⟩
  have hd : ∀ i, i < σ.next → (σ1.del σ.next).get i = σ1.get i := fun i hi => by rw [Sto.get_del, if_neg (by omega)]
  cases hgf : go (handT step go t0 (nodesF f)) with
  | true =>
    rw [hgf, if_pos rfl, if_pos rfl] at g3
    exact ⟨_, _, .normal, g3, by decide, rfl, h1 _ _ rfl hgf (by omega) g2⟩
  | false =>
    rw [hgf, if_neg Bool.false_ne_true, if_neg Bool.false_ne_true] at g3
    exact ⟨_, _, .ret, g3, by decide, rfl, h2 _ _ rfl hgf g2⟩
/-- A loop over the nodes of a formula: S tells the store at each state t of the loop; where 'go' is false the loop has returned. -/
theorem WK.forNodes {T : Type} {nt B : Nat} {Q : Exit → Env → Sto → Prop} {env : Env} {σ : Sto} {g : Operand} {ps : Array Tmp} {assign body : Code} {y : K}
    (ts : List Nat) (f : Fm) (hs : Shrt f) (k : Nat) (S : T → Sto) (step : T → Fm → T) (go : T → Bool) (t0 : T)
    (hg : ev (C gl) nt env g = .fn 47 [.ptr k 0]) (hk : σ.get k = some (.box [.int .i64 f.op, .int .i64 f.var, .list false (encFs f.args)])) (hkl : k < σ.next)
    (hS : S t0 = σ) (hgo : go t0 = true) (hSn : ∀ t, (S t).next = σ.next) (hcut : ∀ t, Cut σ (S t) (S t))
    (hbody : ∀ (L : LoopI) t x σ', L.nt = nt → L.env = env → L.ps = ps → toK L.assign = toK assign → toK L.body = toK body → (∃ p q, nodesF f = p ++ x :: q ∧ t = handT step go t0 p) → go t = true → σ.next < σ'.next → (∀ i, i < σ.next → σ'.get i = (S t).get i) →
      σ'.get σ.next = some (.loop L .ready none) → ∃ b σ2, YStep (C gl) σ.next [encF x] σ' b σ2 ∧ b = go (step t x) ∧
        (σ.next < σ2.next ∧ (∀ i, i < σ.next → σ2.get i = (S (step t x)).get i) ∧ σ2.get σ.next = some (.loop L (if b = true then .ready else .done) (if b = true then none else some .ret))) ∧ Kept (σ.next + 1) σ' σ2)
    (hdone : ∀ t, t = handT step go t0 (nodesF f) → go t = true → WK (C gl) none nt y Q (envX env ts [] []) (S t))
    (hstop : ∀ (t : T) (σ1 : Sto), t = handT step go t0 (nodesF f) → go t = false → (∀ i, i < σ.next → σ1.get i = (S t).get i) → Q .ret env σ1) :
    WK (C gl) none nt (.block B (.oth (.rangeFunc g ps assign body))) (andK (C gl) none nt y Q) env σ := by
  have main : ∀ Q' : Exit → Env → Sto → Prop,
      (∀ (t : T) (σ1 : Sto), t = handT step go t0 (nodesF f) → go t = true → σ.next < σ1.next → (∀ i, i < σ.next → σ1.get i = (S t).get i) → Q' .normal env (σ1.del σ.next)) →
      (∀ (t : T) (σ1 : Sto), t = handT step go t0 (nodesF f) → go t = false → (∀ i, i < σ.next → σ1.get i = (S t).get i) → Q' .ret env (σ1.del σ.next)) →
      WK (C gl) none nt (.oth (.rangeFunc g ps assign body)) Q' env σ := fun Q' h1 h2 => WK.forNodesM f hs k S step go t0 hg hk hkl hS hgo hSn hbody h1 h2
  cases hgf : go (handT step go t0 (nodesF f)) with
  | false =>
    refine WK.block (main _ (fun t σ1 e h => ?_) fun t σ1 e h ha => ?_)
    · rw [e, hgf] at h; cases h
    · rw [inBlk_ret, andK_ret]
      exact hstop t _ e h fun i hi => (by rw [Sto.get_del, if_neg (by omega)]; exact ha i hi)
  | true =>
    refine WK.joinB ts [] [] (S (handT step go t0 (nodesF f))) (WK.block (main _ (fun t σ1 e h hn ha => ?_) fun t σ1 e h => ?_)) (hdone _ rfl hgf)
    · rw [inBlk_normal, joinQ1_normal]
      subst e
      have hc := hcut (handT step go t0 (nodesF f))
      have hn' := hSn (handT step go t0 (nodesF f))
      refine ⟨?_, trivial, ⟨hc.n1, by rw [Sto.next_del, hn']; omega, hc.hi, fun i o hi ho => ?_⟩⟩
      · exact keptX_pick fun t h => h
      · obtain ⟨⟨o', ho', hle⟩, k2⟩ := hc.lo i o hi ho
        exact ⟨⟨o', by rw [Sto.get_del, if_neg (by omega), ha i (by omega)]; exact ho', hle⟩, k2⟩
    · rw [e, hgf] at h; cases h
/-- What is left at the end of a round: the next state is S'. -/
def bodyP (L : LoopI) (id : Nat) (S' σ' σ2 : Sto) : Prop := (∃ pe2, σ2.get id = some (.loop L .busy pe2)) ∧ id < σ2.next ∧ (∀ i, i < id → σ2.get i = S'.get i) ∧ Kept (id + 1) σ' σ2
def bodyQ (L : LoopI) (id : Nat) (go : Bool) (S' σ' : Sto) : Exit → Env → Sto → Prop
  | .normal => fun _ σ2 => go = true ∧ bodyP L id S' σ' σ2
  | .ret => fun _ σ2 => go = false ∧ bodyP L id S' σ' σ2
  | _ => fun _ _ => False
theorem bodyQ_normal' {L : LoopI} {id : Nat} {go : Bool} {S' σ' : Sto} : bodyQ L id go S' σ' .normal = fun _ σ2 => (go = true ∧ bodyP L id S' σ' σ2) := (rfl)
theorem bodyQ_ret {L : LoopI} {id : Nat} {go : Bool} {S' σ' : Sto} : bodyQ L id go S' σ' .ret = fun _ σ2 => (go = false ∧ bodyP L id S' σ' σ2) := (rfl)
attribute [go_sem] bodyQ_normal' bodyQ_ret
/-- A round, from its code. -/
theorem round_of {nt : Nat} {env : Env} {L : LoopI} {ps : Array Tmp} {assign body : Code} {id : Nat} {x : AV} {S' σ' : Sto} {g : Bool} (hLn : L.nt = nt) (hLe : L.env = env) (hLp : L.ps = ps) (hLa : toK L.assign = toK assign) (hLb : toK L.body = toK body)
    (hps : ps.size = 1) (hl : σ'.get id = some (.loop L .ready none)) (hid : id < σ'.next)
    (h : WK (C gl) (some id) nt (toK assign) (fun e env1 σ1 => e = .normal ∧ σ1.get id = some (.loop L .ready none) ∧ WK (C gl) (some id) nt (toK body) (bodyQ L id g S' σ') env1 (σ1.set id (.loop L .busy none))) (bindP env ps.toList [x]) σ') :
    ∃ b σ2, YStep (C gl) id [x] σ' b σ2 ∧ b = g ∧ (id < σ2.next ∧ (∀ i, i < id → σ2.get i = S'.get i) ∧ σ2.get id = some (.loop L (if b = true then .ready else .done) (if b = true then none else some .ret))) ∧ Kept (id + 1) σ' σ2 := by
  refine yStep_of hl (by rw [hLp, hps]; rfl) ?_
  rw [hLa, hLb, hLn, hLe, hLp]
  have fin : ∀ (b : Bool) (j : Option Code) (σ2 : Sto), j.isNone = b → j = (if b = true then none else some .ret) → bodyP L id S' σ' σ2 → b = g →
      j.isNone = g ∧ (id < (σ2.set id (.loop L (if j.isNone = true then .ready else .done) j)).next ∧ (∀ i, i < id → (σ2.set id (.loop L (if j.isNone = true then .ready else .done) j)).get i = S'.get i) ∧
        (σ2.set id (.loop L (if j.isNone = true then .ready else .done) j)).get id = some (.loop L (if j.isNone = true then .ready else .done) (if j.isNone = true then none else some .ret))) ∧ Kept (id + 1) σ' (σ2.set id (.loop L (if j.isNone = true then .ready else .done) j)) := by
    rintro b j σ2 h1 h2 ⟨_, k2, k3, k4⟩ h3
    refine ⟨h1.trans h3, ⟨by rw [Sto.next_set]; exact k2, fun i hi => by rw [Sto.get_set, if_neg (by omega)]; exact k3 i hi, ?_⟩, ⟨fun i q1 q2 => ?_, by rw [Sto.next_set]; exact k4.next⟩⟩
    · rw [Sto.get_set, if_pos rfl, h1, ← h2]
    · rw [Sto.get_set, if_neg (by omega)]; exact k4.get i q1 q2
  refine h.mono fun e env1 σ1 ⟨h1, h2, h3⟩ => ⟨h1, none, h2, h3.mono fun e2 env2 σ2 h4 => ?_⟩
  cases e2 with
  | normal => obtain ⟨h5, h6⟩ := h4; exact ⟨h6.1, none, rfl, fin true none σ2 rfl rfl h6 h5.symm⟩
  | ret => obtain ⟨h5, h6⟩ := h4; exact ⟨h6.1, some .ret, rfl, fin false (some .ret) σ2 rfl rfl h6 h5.symm⟩
  | _ => exact h4.elim
/-- forNodes, the round as a walk; m is the loop's number. -/
theorem WK.forNodesW {T : Type} {nt B : Nat} {Q : Exit → Env → Sto → Prop} {env : Env} {σ : Sto} {g : Operand} {ps : Array Tmp} {assign body : Code} {y : K}
    (m : Nat) (ts : List Nat) (f : Fm) (hs : Shrt f) (k : Nat) (S : T → Sto) (step : T → Fm → T) (go : T → Bool) (t0 : T)
    (hbody : ∀ (L : LoopI) t x σ', (∃ p q, nodesF f = p ++ x :: q ∧ t = handT step go t0 p) → go t = true → m < σ'.next → (∀ i, i < m → σ'.get i = (S t).get i) → σ'.get m = some (.loop L .ready none) →
      WK (C gl) (some m) nt (toK assign) (fun e env1 σ1 => e = .normal ∧ σ1.get m = some (.loop L .ready none) ∧ WK (C gl) (some m) nt (toK body) (bodyQ L m (go (step t x)) (S (step t x)) σ') env1 (σ1.set m (.loop L .busy none))) (bindP env ps.toList [encF x]) σ')
    (hdone : ∀ t, t = handT step go t0 (nodesF f) → go t = true → WK (C gl) none nt y Q (envX env ts [] []) (S t))
    (hstop : ∀ (t : T) (σ1 : Sto), t = handT step go t0 (nodesF f) → go t = false → (∀ i, i < m → σ1.get i = (S t).get i) → Q .ret env σ1)
    (hm : σ.next = m := by simp only [go_sem, seval, reduceCtorEq, H])
    (hg : ev (C gl) nt env g = .fn 47 [.ptr k 0] := by simp only [go_sem, seval, reduceCtorEq, H]) (hk : σ.get k = some (.box [.int .i64 f.op, .int .i64 f.var, .list false (encFs f.args)]) := by simp only [go_sem, seval, reduceCtorEq, H]) (hkl : k < m := by omega) (hps : ps.size = 1 := by rfl)
    (hS : S t0 = σ := by first | rfl | (refine Sto.ext' (by simp only [go_sem, seval, reduceCtorEq]) (fun i => ?_); simp only [go_sem, seval, reduceCtorEq]; repeat' split; all_goals (first | rfl | omega | simp_all))) (hgo : go t0 = true := by rfl) (hSn : ∀ t, (S t).next = m := by intro t; simp only [go_sem, seval, reduceCtorEq]) (hcut : ∀ t, Cut σ (S t) (S t) := by intro t; exact cutA) :
    WK (C gl) none nt (.block B (.oth (.rangeFunc g ps assign body))) (andK (C gl) none nt y Q) env σ := by
  subst hm
  exact WK.forNodes ts f hs k S step go t0 hg hk hkl hS hgo hSn hcut (fun L t x σ' a1 a2 a3 a4 a5 a6 a7 a8 a9 a10 => round_of a1 a2 a3 a4 a5 hps a10 a8 (hbody L t x σ' a6 a7 a8 a9 a10)) hdone hstop
theorem WK.forNodesE {T : Type} {nt B : Nat} {Q : Exit → Env → Sto → Prop} {env : Env} {σ : Sto} {g : Operand} {ps : Array Tmp} {assign body : Code}
    (m : Nat) (f : Fm) (hs : Shrt f) (k : Nat) (S : T → Sto) (step : T → Fm → T) (go : T → Bool) (t0 : T)
    (hbody : ∀ (L : LoopI) t x σ', (∃ p q, nodesF f = p ++ x :: q ∧ t = handT step go t0 p) → go t = true → m < σ'.next → (∀ i, i < m → σ'.get i = (S t).get i) → σ'.get m = some (.loop L .ready none) →
      WK (C gl) (some m) nt (toK assign) (fun e env1 σ1 => e = .normal ∧ σ1.get m = some (.loop L .ready none) ∧ WK (C gl) (some m) nt (toK body) (bodyQ L m (go (step t x)) (S (step t x)) σ') env1 (σ1.set m (.loop L .busy none))) (bindP env ps.toList [encF x]) σ')
    (hdone : ∀ (t : T) (σ1 : Sto), t = handT step go t0 (nodesF f) → go t = true → m ≤ σ1.next → (∀ i, i < m → σ1.get i = (S t).get i) → Q .normal env σ1)
    (hstop : ∀ (t : T) (σ1 : Sto), t = handT step go t0 (nodesF f) → go t = false → (∀ i, i < m → σ1.get i = (S t).get i) → Q .ret env σ1)
    (hm : σ.next = m := by simp only [go_sem, seval, reduceCtorEq, H])
    (hg : ev (C gl) nt env g = .fn 47 [.ptr k 0] := by simp only [go_sem, seval, reduceCtorEq, H]) (hk : σ.get k = some (.box [.int .i64 f.op, .int .i64 f.var, .list false (encFs f.args)]) := by simp only [go_sem, seval, reduceCtorEq, H]) (hkl : k < m := by omega) (hps : ps.size = 1 := by rfl)
    (hS : S t0 = σ := by first | rfl | (refine Sto.ext' (by simp only [go_sem, seval, reduceCtorEq]) (fun i => ?_); simp only [go_sem, seval, reduceCtorEq]; repeat' split; all_goals (first | rfl | omega | simp_all))) (hgo : go t0 = true := by rfl) (hSn : ∀ t, (S t).next = m := by intro t; simp only [go_sem, seval, reduceCtorEq]) :
    WK (C gl) none nt (.block B (.oth (.rangeFunc g ps assign body))) Q env σ := by
  subst hm
  refine WK.block (WK.forNodesM f hs k S step go t0 hg hk hkl hS hgo hSn (fun L t x σ' a1 a2 a3 a4 a5 a6 a7 a8 a9 a10 => round_of a1 a2 a3 a4 a5 hps a10 a8 (hbody L t x σ' a6 a7 a8 a9 a10)) (fun t σ1 e h hn ha => ?_) fun t σ1 e h ha => ?_)
  · exact hdone t _ e h (by rw [Sto.next_del]; omega) fun i hi => (by rw [Sto.get_del, if_neg (by omega)]; exact ha i hi)
  · exact hstop t _ e h fun i hi => (by rw [Sto.get_del, if_neg (by omega)]; exact ha i hi)
theorem cut_agree {σ0 σ1 S' S1 : Sto} {m : Nat} (hn : m ≤ σ1.next) (ha : ∀ i, i < m → σ1.get i = S'.get i) (hm : S'.next = m := by rfl) (h : Cut σ0 S' S1 := by exact cutA) : Cut σ0 σ1 S1 :=
  ⟨h.n1, Nat.le_trans h.n2 (hm ▸ hn), h.hi, fun i o hi ho => by
    obtain ⟨⟨o', ho', hle⟩, k2⟩ := h.lo i o hi ho
    exact ⟨⟨o', (ha i (Nat.lt_of_lt_of_le hi (hm ▸ h.n2))).trans ho', hle⟩, k2⟩⟩
theorem bodyA {L : LoopI} {id : Nat} {S' σ' σ2 : Sto}
    (busy : ∃ pe2, σ2.get id = some (.loop L .busy pe2) := by exact ⟨none, by simp only [go_sem, seval, reduceCtorEq, H]⟩)
    (lt : id < σ2.next := by first | (simp only [go_sem, seval, reduceCtorEq, H]; done) | (simp only [go_sem, seval, reduceCtorEq, H]; omega))
    (ag : ∀ i, i < id → σ2.get i = S'.get i := by
      intro i hi
      simp only [Sto.get_add, Sto.get_set, Sto.get_del, Sto.get_none, Sto.next_add, Sto.next_set, Sto.next_del, Sto.next_none, hag i hi]
      repeat' split
      all_goals first | rfl | omega | simp_all)
    (kp : Kept (id + 1) σ' σ2 := by
      refine ⟨fun i h1 h2 => ?_, by first | (simp only [go_sem, seval, reduceCtorEq, H]; done) | (simp only [go_sem, seval, reduceCtorEq, H]; omega)⟩
      simp only [Sto.get_add, Sto.get_set, Sto.next_add, Sto.next_set]
      repeat rw [if_neg (by omega)]) : bodyP L id S' σ' σ2 := ⟨busy, lt, ag, kp⟩
end
end Go.Sx
