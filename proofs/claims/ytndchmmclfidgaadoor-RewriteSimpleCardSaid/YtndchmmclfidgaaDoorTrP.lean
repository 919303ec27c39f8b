import Derived.Test.YtndchmmclfidgaaDoorTrK
import Derived.Test.YtndchmmclfidgaaDoorLgAv
set_option maxRecDepth 100000
set_option maxHeartbeats 4000000
set_option linter.unusedSimpArgs false
set_option linter.unusedVariables false
set_option linter.unnecessarySimpa false
namespace Go.Sx
open Go Go.Lg Go.Proofs
/-! ## What a formula comes to in a world that never changes, its variables false -/
def cvC (o : Int) (l : List Bool) : Bool :=
  if o = 0 then true
  else if o = 3 then !l.getD 0 false
  else if o = 4 then l.getD 0 false && l.getD 1 false
  else if o = 5 then l.getD 0 false || l.getD 1 false
  else if o = 6 then !l.getD 0 false || l.getD 1 false
  else if o = 7 then l.getD 0 false == l.getD 1 false
  else if o = 8 then l.getD 0 false
  else if o = 9 then l.getD 0 false
  else if o = 10 then l.getD 0 false
  else if o = 11 then l.getD 1 false
  else if o = 12 then l.getD 1 false
  else if o = 13 then l.getD 0 false || l.getD 1 false
  else false
mutual
def cv : Fm → Bool
  | .mk o _ l => cvC o (cvL l)
def cvL : List Fm → List Bool
  | [] => []
  | f :: l => cv f :: cvL l
end
theorem cvL_map : ∀ l : List Fm, cvL l = l.map cv
  | [] => rfl
  | f :: l => by rw [cvL, cvL_map l]; rfl
/-- No node is a variable. -/
def noV (f : Fm) : Prop := ∀ x ∈ nodesF f, x.op ≠ 2
theorem noV_iff {o v : Int} {l : List Fm} : noV (.mk o v l) ↔ o ≠ 2 ∧ ∀ g ∈ l, noV g := by
  have hL : ∀ l : List Fm, (∀ x ∈ nodesL l, x.op ≠ 2) ↔ ∀ g ∈ l, noV g := by
    intro l
    induction l with
    | nil => simp [nodesL]
    | cons f l ih =>
      simp only [nodesL, List.mem_append, List.mem_cons, forall_eq_or_imp, ← ih]
      exact ⟨fun h => ⟨fun x hx => h x (.inl hx), fun x hx => h x (.inr hx)⟩, fun h x hx => hx.elim (h.1 x) (h.2 x)⟩
  unfold noV
  simp only [nodesF, List.mem_cons, forall_eq_or_imp, hL, fm_op]
  exact Iff.rfl
/-- g may stand for f. -/
def Stands (f g : Fm) : Prop := cv g = cv f ∧ (noV f → noV g)
theorem Stands.refl (f : Fm) : Stands f f := ⟨rfl, id⟩
theorem Stands.trans {f g h : Fm} (h1 : Stands f g) (h2 : Stands g h) : Stands f h := ⟨h2.1.trans h1.1, fun h => h2.2 (h1.2 h)⟩
theorem cv_0 {f : Fm} (h : f.op = 0) : cv f = true := by
  obtain ⟨o, v, l⟩ := f
  simp only [fm_op] at h
  subst h; rfl
theorem cv_1 {f : Fm} (h : f.op = 1) : cv f = false := by
  obtain ⟨o, v, l⟩ := f
  simp only [fm_op] at h
  subst h; rfl
theorem cv_const (b : Bool) : cv (constF b) = b := by cases b <;> rfl
theorem noV_const (b : Bool) : noV (constF b) := by cases b <;> (intro x hx; simp only [constF, if_true, if_false, Bool.false_eq_true, nodesF, nodesL, List.mem_singleton] at hx; subst hx; decide)
theorem noV_un {o v : Int} {g : Fm} : noV (.mk o v [g]) ↔ o ≠ 2 ∧ noV g := by rw [noV_iff]; simp
theorem noV_bin {o v : Int} {g h : Fm} : noV (.mk o v [g, h]) ↔ o ≠ 2 ∧ noV g ∧ noV h := by rw [noV_iff]; simp
theorem st_not {g : Fm} (h : okA g) : cv (notF g) = !cv g ∧ (noV g → noV (notF g)) := by
  unfold notF
  by_cases h0 : (g.op == 0) = true
  · rw [if_pos h0, cv_0 (eq_of_beq h0)]; exact ⟨rfl, fun _ => noV_const false⟩
  rw [if_neg h0]
  by_cases h1 : (g.op == 1) = true
  · rw [if_pos h1, cv_1 (eq_of_beq h1)]; exact ⟨rfl, fun _ => noV_const true⟩
  rw [if_neg h1]
  by_cases h3 : (g.op == 3) = true
  · rw [if_pos h3]
    obtain ⟨x, hx⟩ := okA_op3 h (eq_of_beq h3)
    have e := (args1 hx).1
    rw [e]
    obtain ⟨o, v, l⟩ := g
    simp only [fm_args, fm_op] at hx h3
    have h3 := eq_of_beq h3
    subst hx; subst h3
    refine ⟨?_, fun h => (noV_un.1 h).2⟩
    show cv x = !(!cv x)
    rw [Bool.not_not]
  · rw [if_neg h3]
    exact ⟨rfl, fun h => noV_un.2 ⟨by decide, h⟩⟩
theorem st_one {o v : Int} {g : Fm} (hA : okA (.mk o v [g])) : Stands (.mk o v [g]) (oneF (.mk o v [g])).1 := by
  have hg : okA g := okA_sub hA List.mem_cons_self
  have hn := st_not hg
  have ha : arg (.mk o v [g]) 0 = g := rfl
  have hok := hA _ (nodes_self _)
  rw [okNode_eq] at hok
  simp only [Bool.and_eq_true] at hok
  obtain ⟨⟨⟨ho1, ho2⟩, hal⟩, hv⟩ := hok
  replace ho1 := of_decide_eq_true ho1
  replace ho2 := of_decide_eq_true ho2
  replace hal := of_decide_eq_true hal
  have hcs : o = 0 ∨ o = 1 ∨ o = 2 ∨ o = 3 ∨ o = 4 ∨ o = 5 ∨ o = 6 ∨ o = 7 ∨ o = 8 ∨ o = 9 ∨ o = 10 ∨ o = 11 ∨ o = 12 ∨ o = 13 := by omega
  have ho : o = 3 ∨ o = 8 ∨ o = 9 ∨ o = 10 := by
    rcases hcs with rfl | rfl | rfl | rfl | rfl | rfl | rfl | rfl | rfl | rfl | rfl | rfl | rfl | rfl <;> first | omega | (exfalso; simp [arityL] at hal)
  have hid : o ≠ 3 → cv (.mk o v [g]) = cv g := by
    intro h
    rcases ho with rfl | rfl | rfl | rfl
    · exact absurd rfl h
    all_goals rfl
  have hvg : noV (.mk o v [g]) → noV g := fun h => (noV_un.1 h).2
  unfold oneF
  simp only [ha, fm_op]
  by_cases h3 : (o == 3) = true
  · rw [if_pos h3]
    have h3 := eq_of_beq h3
    subst h3
    have e : cv (.mk 3 v [g]) = !cv g := rfl
    have k : Stands (.mk 3 v [g]) (notF g) := ⟨hn.1.trans e.symm, fun h => hn.2 (hvg h)⟩
    repeat' split
    all_goals first | exact k | exact .refl _
  · rw [if_neg h3]
    have h3 : o ≠ 3 := fun h => h3 (by rw [h]; rfl)
    have k : Stands (.mk o v [g]) g := ⟨(hid h3).symm, hvg⟩
    repeat' split
    all_goals first | exact k | exact .refl _ | skip
theorem st_one' {o : Int} {g : Fm} (ho : o = 9 ∨ o = 10) (hg : okA g) : Stands g (oneF (.mk o 0 [g])).1 := by
  have hA : okA (.mk o 0 [g]) := by
    refine okA_iff.2 ⟨?_, fun x hx => ?_⟩
    · rcases ho with rfl | rfl <;> rfl
    · rw [List.mem_singleton] at hx; subst hx; exact hg
  have h := st_one hA
  refine ⟨h.1.trans ?_, fun hn => h.2 (noV_un.2 ⟨by omega, hn⟩)⟩
  rcases ho with rfl | rfl <;> rfl
theorem ops2 {o v : Int} {a b : Fm} (hA : okA (.mk o v [a, b])) : o = 4 ∨ o = 5 ∨ o = 6 ∨ o = 7 ∨ o = 11 ∨ o = 12 ∨ o = 13 := by
  have hok := hA _ (nodes_self _)
  rw [okNode_eq] at hok
  simp only [Bool.and_eq_true] at hok
  obtain ⟨⟨⟨ho1, ho2⟩, hal⟩, hv⟩ := hok
  replace ho1 := of_decide_eq_true ho1
  replace ho2 := of_decide_eq_true ho2
  replace hal := of_decide_eq_true hal
  have hcs : o = 0 ∨ o = 1 ∨ o = 2 ∨ o = 3 ∨ o = 4 ∨ o = 5 ∨ o = 6 ∨ o = 7 ∨ o = 8 ∨ o = 9 ∨ o = 10 ∨ o = 11 ∨ o = 12 ∨ o = 13 := by omega
  rcases hcs with rfl | rfl | rfl | rfl | rfl | rfl | rfl | rfl | rfl | rfl | rfl | rfl | rfl | rfl <;> first | omega | (exfalso; simp [arityL] at hal)
theorem st_same2 {o v : Int} {a b : Fm} (hA : okA (.mk o v [a, b])) (h : (same2 (.mk o v [a, b])).2 = true) : Stands (.mk o v [a, b]) (same2 (.mk o v [a, b])).1 := by
  have h0 : arg (.mk o v [a, b]) 0 = a := rfl
  have h1 : arg (.mk o v [a, b]) 1 = b := rfl
  have ho := ops2 hA
  unfold same2 at h ⊢
  simp only [h0, h1, fm_op] at h ⊢
  by_cases hs : sameF a b = true
  · rw [if_pos hs]
    have := (sameF_iff a b).1 hs
    subst this
    have hv : noV (.mk o v [a, a]) → noV a := fun h => (noV_bin.1 h).2.1
    rcases ho with rfl | rfl | rfl | rfl | rfl | rfl | rfl
    · exact ⟨(Bool.and_self (cv a)).symm, hv⟩
    · exact ⟨(Bool.or_self (cv a)).symm, hv⟩
    · exact ⟨(by show true = (!cv a || cv a); cases cv a <;> rfl), fun _ => noV_const true⟩
    · exact ⟨(by show true = (cv a == cv a); cases cv a <;> rfl), fun _ => noV_const true⟩
    · exact ⟨rfl, hv⟩
    · exact ⟨rfl, hv⟩
    · exact ⟨(Bool.or_self (cv a)).symm, hv⟩
  · rw [if_neg hs] at h; cases h
theorem st_first {o v : Int} {a b : Fm} (hA : okA (.mk o v [a, b])) (h : (firstF (.mk o v [a, b])).2 = true) : Stands (.mk o v [a, b]) (firstF (.mk o v [a, b])).1 := by
  have h0 : arg (.mk o v [a, b]) 0 = a := rfl
  have h1 : arg (.mk o v [a, b]) 1 = b := rfl
  have ho := ops2 hA
  have hb : okA b := okA_sub hA (List.mem_cons_of_mem _ List.mem_cons_self)
  have n := st_not hb
  have u9 := st_one' (.inl rfl) hb
  have u10 := st_one' (.inr rfl) hb
  have hv : noV (.mk o v [a, b]) → noV a ∧ noV b := fun h => (noV_bin.1 h).2
  have key : ∀ y, cv a = y → Stands (.mk o v [a, b]) (firstC (.mk o v [a, b]) y) := by
    intro y hy
    unfold firstC
    simp only [h0, h1, fm_op]
    rcases ho with rfl | rfl | rfl | rfl | rfl | rfl | rfl
    · refine ⟨?_, fun h => ?_⟩
      · show cv (pickF y b a) = (cv a && cv b); rw [hy]; cases y <;> simp [pickF, hy]
      · show noV (pickF y b a); cases y <;> simp only [pickF, if_true, if_false, Bool.false_eq_true]; all_goals first | exact (hv h).1 | exact (hv h).2
    · refine ⟨?_, fun h => ?_⟩
      · show cv (pickF y a b) = (cv a || cv b); rw [hy]; cases y <;> simp [pickF, hy]
      · show noV (pickF y a b); cases y <;> simp only [pickF, if_true, if_false, Bool.false_eq_true]; all_goals first | exact (hv h).2 | exact (hv h).1
    · refine ⟨?_, fun h => ?_⟩
      · show cv (pickF y b (constF true)) = (!cv a || cv b); rw [hy]; cases y <;> simp [pickF, hy, cv_const]
      · show noV (pickF y b (constF true)); cases y <;> simp only [pickF, if_true, if_false, Bool.false_eq_true]; all_goals first | exact noV_const _ | exact (hv h).2
    · refine ⟨?_, fun h => ?_⟩
      · show cv (pickF y b (notF b)) = (cv a == cv b); rw [hy]; cases y <;> simp [pickF, hy, n.1]
      · show noV (pickF y b (notF b)); cases y <;> simp only [pickF, if_true, if_false, Bool.false_eq_true]; all_goals first | exact n.2 (hv h).2 | exact (hv h).2
    · refine ⟨?_, fun h => ?_⟩
      · show cv (if y = true then (oneF (.mk 9 0 [b])).1 else b) = cv b; cases y; all_goals first | exact rfl | exact u9.1
      · show noV (if y = true then (oneF (.mk 9 0 [b])).1 else b); cases y; all_goals first | exact (hv h).2 | exact u9.2 (hv h).2
    · refine ⟨?_, fun h => ?_⟩
      · show cv (if y = true then b else (oneF (.mk 10 0 [b])).1) = cv b; cases y; all_goals first | exact u10.1 | exact rfl
      · show noV (if y = true then b else (oneF (.mk 10 0 [b])).1); cases y; all_goals first | exact u10.2 (hv h).2 | exact (hv h).2
    · refine ⟨?_, fun h => ?_⟩
      · show cv (pickF y (constF true) b) = (cv a || cv b); rw [hy]; cases y <;> simp [pickF, hy, cv_const]
      · show noV (pickF y (constF true) b); cases y <;> simp only [pickF, if_true, if_false, Bool.false_eq_true]; all_goals first | exact (hv h).2 | exact noV_const _
  unfold firstF at h ⊢
  simp only [h0] at h ⊢
  by_cases k0 : (a.op == 0) = true
  · rw [if_pos k0]; exact key true (cv_0 (eq_of_beq k0))
  rw [if_neg k0] at h ⊢
  by_cases k1 : (a.op == 1) = true
  · rw [if_pos k1]; exact key false (cv_1 (eq_of_beq k1))
  · rw [if_neg k1] at h; cases h
theorem st_second {o v : Int} {a b : Fm} (hA : okA (.mk o v [a, b])) (h : (secondF (.mk o v [a, b])).2 = true) : Stands (.mk o v [a, b]) (secondF (.mk o v [a, b])).1 := by
  have h0 : arg (.mk o v [a, b]) 0 = a := rfl
  have h1 : arg (.mk o v [a, b]) 1 = b := rfl
  have ho := ops2 hA
  have ha : okA a := okA_sub hA List.mem_cons_self
  have n := st_not ha
  have u10 := st_one' (.inr rfl) ha
  have hv : noV (.mk o v [a, b]) → noV a ∧ noV b := fun h => (noV_bin.1 h).2
  have key : ∀ y, cv b = y → Stands (.mk o v [a, b]) (secondC (.mk o v [a, b]) y) := by
    intro y hy
    unfold secondC
    simp only [h0, h1, fm_op]
    rcases ho with rfl | rfl | rfl | rfl | rfl | rfl | rfl
    · refine ⟨?_, fun h => ?_⟩
      · show cv (pickF y a b) = (cv a && cv b); rw [hy]; cases y <;> simp [pickF, hy]
      · show noV (pickF y a b); cases y <;> simp only [pickF, if_true, if_false, Bool.false_eq_true]; all_goals first | exact (hv h).2 | exact (hv h).1
    · refine ⟨?_, fun h => ?_⟩
      · show cv (pickF y b a) = (cv a || cv b); rw [hy]; cases y <;> simp [pickF, hy]
      · show noV (pickF y b a); cases y <;> simp only [pickF, if_true, if_false, Bool.false_eq_true]; all_goals first | exact (hv h).1 | exact (hv h).2
    · refine ⟨?_, fun h => ?_⟩
      · show cv (if y = true then b else notF a) = (!cv a || cv b); rw [hy]; cases y <;> simp [hy, n.1]
      · show noV (if y = true then b else notF a); cases y; all_goals first | exact n.2 (hv h).1 | exact (hv h).2
    · refine ⟨?_, fun h => ?_⟩
      · show cv (pickF y a (notF a)) = (cv a == cv b); rw [hy]; cases y <;> simp [pickF, hy, n.1]
      · show noV (pickF y a (notF a)); cases y <;> simp only [pickF, if_true, if_false, Bool.false_eq_true]; all_goals first | exact n.2 (hv h).1 | exact (hv h).1
    · exact ⟨rfl, fun h => (hv h).2⟩
    · exact ⟨rfl, fun h => (hv h).2⟩
    · refine ⟨?_, fun h => ?_⟩
      · show cv (if y = true then b else (oneF (.mk 10 0 [a])).1) = (cv a || cv b); rw [hy]; cases y <;> simp [hy, u10.1]
      · show noV (if y = true then b else (oneF (.mk 10 0 [a])).1); cases y; all_goals first | exact u10.2 (hv h).1 | exact (hv h).2
  unfold secondF at h ⊢
  simp only [h1] at h ⊢
  by_cases k0 : (b.op == 0) = true
  · rw [if_pos k0]; exact key true (cv_0 (eq_of_beq k0))
  rw [if_neg k0] at h ⊢
  by_cases k1 : (b.op == 1) = true
  · rw [if_pos k1]; exact key false (cv_1 (eq_of_beq k1))
  · rw [if_neg k1] at h; cases h
theorem st_rule2 {o v : Int} {a b g : Fm} (h : okA (.mk o v [a, b])) (hr : rule2 (.mk o v [a, b]) = some g) : Stands (.mk o v [a, b]) g := by
  unfold rule2 at hr
  by_cases h1 : (same2 (.mk o v [a, b])).2 = true
  · rw [if_pos h1] at hr; cases hr; exact st_same2 h h1
  rw [if_neg h1] at hr
  by_cases h2 : (firstF (.mk o v [a, b])).2 = true
  · rw [if_pos h2] at hr; cases hr; exact st_first h h2
  rw [if_neg h2] at hr
  by_cases h3 : (secondF (.mk o v [a, b])).2 = true
  · rw [if_pos h3] at hr; cases hr; exact st_second h h3
  rw [if_neg h3] at hr; cases hr
theorem st_mk : ∀ (n : Nat) (f r : Fm), okA f → mkF n f = some r → Stands f r
  | 0, f, r, _, h => by cases h
  | n + 1, f, r, hA, hm => by
    have h3 := args012 hA
    obtain ⟨o, v, l⟩ := f
    simp only [fm_args] at h3
    rcases h3 with rfl | ⟨g, rfl⟩ | ⟨g, h, rfl⟩
    · simp only [mkF, fm_args, Option.some.injEq] at hm
      subst hm; exact .refl _
    · simp only [mkF, fm_args] at hm
      have s := st_one hA
      by_cases h1 : (oneF (.mk o v [g])).2 = true
      · rw [if_pos h1] at hm
        by_cases h2 : simpleF (oneF (.mk o v [g])).1 = true
        · rw [if_pos h2] at hm; cases hm; exact s
        · rw [if_neg h2] at hm
          exact s.trans (st_mk n _ r (okA_one hA) hm)
      · rw [if_neg h1] at hm
        cases hm; exact .refl _
    · simp only [mkF, fm_args] at hm
      cases hr : rule2 (.mk o v [g, h]) with
      | none => rw [hr] at hm; cases hm; exact .refl _
      | some x =>
        have s := st_rule2 hA hr
        have k1 := (rule2_some hA hr).1
        rw [hr] at hm
        simp only at hm
        by_cases h2 : simpleF x = true
        · rw [if_pos h2] at hm; cases hm; exact s
        · rw [if_neg h2] at hm
          exact s.trans (st_mk n _ r k1 hm)
theorem st_map {o v : Int} {φ : Fm → Fm} {l : List Fm} (h : ∀ g ∈ l, Stands g (φ g)) : Stands (.mk o v l) (.mk o v (l.map φ)) := by
  refine ⟨?_, fun hn => ?_⟩
  · simp only [cv, cvL_map, List.map_map]
    congr 1
    exact List.map_congr_left fun g hg => (h g hg).1
  · rw [noV_iff] at hn ⊢
    refine ⟨hn.1, fun g hg => ?_⟩
    obtain ⟨x, hx, rfl⟩ := List.mem_map.1 hg
    exact (h x hx).2 (hn.2 x hx)
theorem st_all (f : Fm) : okA f → Stands f (allF f) := by
  induction f using Fm.ind with
  | h o v l ih =>
    intro hA
    have hm : okA (.mk o v (l.map allF)) := okA_map hA fun g hg => okA_all g (okA_sub hA hg)
    rw [allF, allL_map]
    exact (st_map fun g hg => ih g hg (okA_sub hA hg)).trans (st_mk _ _ _ hm (mkT_spec hm).1)
theorem st_sim : ∀ (n : Nat) (f : Fm), nN f ≤ n → okA f → Stands f (simF f)
  | 0, f, h, _ => by have := nN_pos f; omega
  | n + 1, f, h, hA => by
    rcases all_tot f hA with e | e
    · rw [simF_fix e]; exact .refl _
    · rw [simF_lt e]
      exact (st_all f hA).trans (st_sim n (allF f) (by omega) (okA_all f hA))
end Go.Sx

set_option maxRecDepth 100000
set_option maxHeartbeats 4000000
set_option linter.unusedSimpArgs false
set_option linter.unusedVariables false
set_option linter.unnecessarySimpa false
namespace Go.Sx
open Go Go.Lg Go.Proofs
/-! ## Where nothing changes any more, the formula is plain -/
theorem map_self {φ : Fm → Fm} : ∀ {l : List Fm}, l.map φ = l → ∀ g ∈ l, φ g = g
  | [], _, g, h => by cases h
  | f :: l, e, g, h => by
    rw [List.map_cons, List.cons.injEq] at e
    rcases List.mem_cons.1 h with rfl | h
    · exact e.1
    · exact map_self e.2 g h
theorem all_fix {o v : Int} {l : List Fm} (hA : okA (.mk o v l)) (h : allF (.mk o v l) = .mk o v l) : irr (.mk o v l) ∧ ∀ g ∈ l, allF g = g := by
  have hm : okA (.mk o v (l.map allF)) := okA_map hA fun g hg => okA_all g (okA_sub hA hg)
  have h1 := map_tot (φ := allF) l fun g hg => all_tot g (okA_sub hA hg)
  have h2 := (mkT_spec hm).2.2
  rw [allF, allL_map] at h
  have e : ∀ l : List Fm, nN (.mk o v l) = (nodesL l).length + 1 := fun l => by simp [nN, nodesF]
  rw [h, e, e] at h2
  rcases h1 with h1 | h1
  · rw [h1] at h2
    rcases h2 with h2 | h2
    · exact ⟨h2.2, map_self h1⟩
    · omega
  · rcases h2 with h2 | h2
    · injection h2.1 with _ _ h3
      rw [← h3] at h1; omega
    · omega
def badF (f : Fm) : Bool := (f.op == 0) || ((f.op == 1) || ((f.op == 3) && ((arg f 0).op == 3)))
mutual
def plainF : Fm → Bool
  | .mk o v l => !badF (.mk o v l) && plainL l
def plainL : List Fm → Bool
  | [] => true
  | f :: l => plainF f && plainL l
end
theorem plainL_all : ∀ l : List Fm, plainL l = l.all plainF
  | [] => rfl
  | f :: l => by rw [plainL, plainL_all l]; rfl
theorem one_no {o v : Int} {g : Fm} (h : (oneF (.mk o v [g])).2 = false) : g.op ≠ 0 ∧ g.op ≠ 1 ∧ (o = 3 → g.op ≠ 3) := by
  have ha : arg (.mk o v [g]) 0 = g := rfl
  unfold oneF at h
  simp only [ha, fm_op] at h
  by_cases h3 : (o == 3) = true
  · rw [if_pos h3] at h
    by_cases k0 : (g.op == 0) = true
    · rw [if_pos k0] at h; cases h
    rw [if_neg k0] at h
    by_cases k1 : (g.op == 1) = true
    · rw [if_pos k1] at h; cases h
    rw [if_neg k1] at h
    by_cases k3 : (g.op == 3) = true
    · rw [if_pos k3] at h; cases h
    simp only [beq_iff_eq] at k0 k1 k3
    exact ⟨k0, k1, fun _ => k3⟩
  · rw [if_neg h3] at h
    by_cases k0 : (g.op == 0) = true
    · rw [if_pos k0] at h; cases h
    rw [if_neg k0] at h
    by_cases k1 : (g.op == 1) = true
    · rw [if_pos k1] at h; cases h
    simp only [beq_iff_eq] at k0 k1 h3
    exact ⟨k0, k1, fun h => absurd h h3⟩
theorem rule2_no {o v : Int} {a b : Fm} (h : rule2 (.mk o v [a, b]) = none) : (a.op ≠ 0 ∧ a.op ≠ 1) ∧ b.op ≠ 0 ∧ b.op ≠ 1 := by
  have h0 : arg (.mk o v [a, b]) 0 = a := rfl
  have h1 : arg (.mk o v [a, b]) 1 = b := rfl
  unfold rule2 at h
  by_cases k1 : (same2 (.mk o v [a, b])).2 = true
  · rw [if_pos k1] at h; cases h
  rw [if_neg k1] at h
  by_cases k2 : (firstF (.mk o v [a, b])).2 = true
  · rw [if_pos k2] at h; cases h
  rw [if_neg k2] at h
  by_cases k3 : (secondF (.mk o v [a, b])).2 = true
  · rw [if_pos k3] at h; cases h
  unfold firstF at k2
  unfold secondF at k3
  simp only [h0, h1] at k2 k3
  refine ⟨⟨fun e => k2 ?_, fun e => k2 ?_⟩, fun e => k3 ?_, fun e => k3 ?_⟩
  all_goals rw [e]
  all_goals rfl
theorem fix_plain (f : Fm) : okA f → allF f = f → f.op ≠ 0 → f.op ≠ 1 → plainF f = true := by
  induction f using Fm.ind with
  | h o v l ih =>
    intro hA hf n0 n1
    obtain ⟨hi, hs⟩ := all_fix hA hf
    have h3 := args012 hA
    simp only [fm_args, fm_op] at h3 n0 n1
    have b0 : (o == 0) = false := beq_eq_false_iff_ne.2 n0
    have b1 : (o == 1) = false := beq_eq_false_iff_ne.2 n1
    rcases h3 with rfl | ⟨g, rfl⟩ | ⟨g, h, rfl⟩
    · have e3 : ((arg (.mk o v []) 0).op == 3) = false := rfl
      simp only [plainF, plainL, badF, fm_op, b0, b1, e3, Bool.and_false, Bool.or_false, Bool.not_false, Bool.and_true]
    · obtain ⟨k0, k1, k3⟩ := one_no (o := o) (v := v) hi
      have hg := ih g (by simp) (okA_sub hA (by simp)) (hs g (by simp)) k0 k1
      have ha : arg (.mk o v [g]) 0 = g := rfl
      have e3 : ((o == 3) && (g.op == 3)) = false := by
        cases e : o == 3 with
        | false => rfl
        | true => rw [Bool.true_and]; exact beq_eq_false_iff_ne.2 (k3 (eq_of_beq e))
      simp only [plainF, plainL, badF, fm_op, ha, b0, b1, e3, hg, Bool.or_false, Bool.not_false, Bool.and_true]
    · obtain ⟨⟨k0, k1⟩, k2, k3⟩ := rule2_no (o := o) (v := v) hi
      have hg := ih g (by simp) (okA_sub hA (by simp)) (hs g (by simp)) k0 k1
      have hh := ih h (by simp) (okA_sub hA (by simp)) (hs h (by simp)) k2 k3
      have e3 : (o == 3) = false := beq_eq_false_iff_ne.2 (by have := ops2 hA; omega)
      simp only [plainF, plainL, badF, fm_op, b0, b1, e3, hg, hh, Bool.false_and, Bool.or_false, Bool.not_false, Bool.and_true]
theorem ops0 {o v : Int} (hA : okA (.mk o v [])) : o = 0 ∨ o = 1 ∨ o = 2 := by
  have hok := hA _ (nodes_self _)
  rw [okNode_eq] at hok
  simp only [Bool.and_eq_true] at hok
  obtain ⟨⟨⟨ho1, ho2⟩, hal⟩, hv⟩ := hok
  replace ho1 := of_decide_eq_true ho1
  replace ho2 := of_decide_eq_true ho2
  replace hal := of_decide_eq_true hal
  have hcs : o = 0 ∨ o = 1 ∨ o = 2 ∨ o = 3 ∨ o = 4 ∨ o = 5 ∨ o = 6 ∨ o = 7 ∨ o = 8 ∨ o = 9 ∨ o = 10 ∨ o = 11 ∨ o = 12 ∨ o = 13 := by omega
  rcases hcs with rfl | rfl | rfl | rfl | rfl | rfl | rfl | rfl | rfl | rfl | rfl | rfl | rfl | rfl <;> first | omega | (exfalso; simp [arityL] at hal)
theorem plain_var (f : Fm) : okA f → noV f → plainF f = true → False := by
  induction f using Fm.ind with
  | h o v l ih =>
    intro hA hn hp
    rw [noV_iff] at hn
    simp only [plainF, plainL_all, Bool.and_eq_true, Bool.not_eq_true', List.all_eq_true] at hp
    have h3 := args012 hA
    simp only [fm_args] at h3
    rcases h3 with rfl | ⟨g, rfl⟩ | ⟨g, h, rfl⟩
    · rcases ops0 hA with rfl | rfl | rfl
      · exact Bool.noConfusion (show true = false from hp.1)
      · exact Bool.noConfusion (show true = false from hp.1)
      · exact hn.1 rfl
    · exact ih g (by simp) (okA_sub hA (by simp)) (hn.2 g (by simp)) (hp.2 g (by simp))
    · exact ih g (by simp) (okA_sub hA (by simp)) (hn.2 g (by simp)) (hp.2 g (by simp))
def plainS (f : Fm) : Bool := (f.op == 0) || ((f.op == 1) || plainF f)
theorem sim_plain {f : Fm} (hA : okA f) : plainS (simF f) = true := by
  obtain ⟨h1, h2, h3⟩ := simF_spec _ f (Nat.le_refl _) hA
  unfold plainS
  cases k0 : (simF f).op == 0 with
  | true => rfl
  | false =>
    cases k1 : (simF f).op == 1 with
    | true => rfl
    | false => exact fix_plain _ h1 h2 (beq_eq_false_iff_ne.1 k0) (beq_eq_false_iff_ne.1 k1)
theorem sim_op {f : Fm} (hA : okA f) (hn : noV f) : (simF f).op = if cv f = true then 0 else 1 := by
  obtain ⟨h1, h2, h3⟩ := simF_spec _ f (Nat.le_refl _) hA
  have st := st_sim _ f (Nat.le_refl _) hA
  have hp := sim_plain hA
  unfold plainS at hp
  cases k0 : (simF f).op == 0 with
  | true =>
    have e := eq_of_beq k0
    rw [e, ← st.1, cv_0 e]; rfl
  | false =>
    cases k1 : (simF f).op == 1 with
    | true =>
      have e := eq_of_beq k1
      rw [e, ← st.1, cv_1 e]; rfl
    | false =>
      rw [k0, k1, Bool.false_or, Bool.false_or] at hp
      exact (plain_var _ h1 (st.2 hn) hp).elim
theorem sim_valid {f : Fm} (hv : validF f 6 = true) : validF (simF f) 6 = true := by
  have hA := (valid_both hv).2
  have hn : nN f ≤ 60 := ((validF_iff f 6).1 hv).2.2.1
  obtain ⟨h1, h2, h3⟩ := simF_spec _ f (Nat.le_refl _) hA
  exact (validF_iff _ 6).2 ⟨by omega, by omega, by unfold nN at h3 hn; omega, h1⟩
theorem sim_again {f : Fm} (hA : okA f) : simF (simF f) = simF f := simF_fix (simF_spec _ f (Nat.le_refl _) hA).2.1
end Go.Sx

set_option maxRecDepth 100000
set_option maxHeartbeats 4000000
set_option linter.unusedSimpArgs false
set_option linter.unusedVariables false
set_option linter.unnecessarySimpa false
namespace Go.Sx
open Go Go.Lg Go.Proofs
theorem b123 {gl : GL} : Body (C gl).P 123 Tryd.f123 (codeOf Tryd.f123) := ⟨Tryd.func123, by kernel_rfl, by kernel_rfl⟩
theorem b63 {gl : GL} : Body (C gl).P 63 Tryd.f63 (codeOf Tryd.f63) := ⟨Tryd.func63, by kernel_rfl, by kernel_rfl⟩
theorem b65 {gl : GL} : Body (C gl).P 65 Tryd.f65 (codeOf Tryd.f65) := ⟨Tryd.func65, by kernel_rfl, by kernel_rfl⟩
def bitV (o v : Int) : BitVec 64 := if o = 2 then 1#64 <<< v.toNat else 0#64
mutual
def bitsB : Fm → BitVec 64
  | .mk o v l => bitsL (bitV o v) l
def bitsL : BitVec 64 → List Fm → BitVec 64
  | a, [] => a
  | a, f :: l => bitsL (a ||| bitsB f) l
end
theorem bitsL_app : ∀ (l m : List Fm) (a : BitVec 64), bitsL a (l ++ m) = bitsL (bitsL a l) m
  | [], m, a => by rw [List.nil_append, bitsL]
  | f :: l, m, a => by rw [List.cons_append, bitsL, bitsL, bitsL_app l]
theorem bitsL_take {l : List Fm} {i : Nat} (a : BitVec 64) (h : i < l.length) : bitsL a (l.take (i + 1)) = bitsL a (l.take i) ||| bitsB l[i] := by
  rw [← List.take_append_getElem h, bitsL_app, bitsL, bitsL]
theorem wrap_bv (x : BitVec 64) : IntKind.i64.wrap (x.toNat : Int) = x.toInt := by
  have hlt := x.isLt
  rw [BitVec.toInt_eq_toNat_cond]
  have e : (x.toNat : Int) % (2 ^ IntKind.i64.bits : Int) = x.toNat := Int.emod_eq_of_lt (by omega) (by show (x.toNat : Int) < 2 ^ 64; omega)
  unfold IntKind.wrap
  simp only [e]
  show (if (true && decide ((x.toNat : Int) ≥ 2 ^ 63)) = true then (x.toNat : Int) - 2 ^ 64 else (x.toNat : Int)) = _
  simp only [Bool.true_and, decide_eq_true_eq]
  by_cases h : 2 * x.toNat < 2 ^ 64
  · rw [if_pos h, if_neg (by omega)]
  · rw [if_neg h, if_pos (by omega)]; rfl
theorem orI_bv (a b : BitVec 64) : orI .i64 a.toInt b.toInt = (a ||| b).toInt := by
  unfold orI
  show IntKind.i64.wrap ((BitVec.ofInt 64 a.toInt ||| BitVec.ofInt 64 b.toInt).toNat : Int) = _
  rw [BitVec.ofInt_toInt, BitVec.ofInt_toInt]
  exact wrap_bv _
theorem bv_zero {a : BitVec 64} (h : (a.toInt == 0) = true) : a = 0#64 := by
  have h := eq_of_beq h
  exact BitVec.eq_of_toInt_eq (h.trans (by decide))
theorem or_zero {a b : BitVec 64} (h : a ||| b = 0#64) : a = 0#64 ∧ b = 0#64 := BitVec.or_eq_zero_iff.1 h
theorem bitsL_zero : ∀ (l : List Fm) (a : BitVec 64), bitsL a l = 0#64 → a = 0#64 ∧ ∀ g ∈ l, bitsB g = 0#64
  | [], a, h => ⟨h, fun g hg => by cases hg⟩
  | f :: l, a, h => by
    rw [bitsL] at h
    obtain ⟨h1, h2⟩ := bitsL_zero l _ h
    obtain ⟨h3, h4⟩ := or_zero h1
    refine ⟨h3, fun g hg => ?_⟩
    rcases List.mem_cons.1 hg with rfl | hg
    · exact h4
    · exact h2 g hg
theorem bits_noV (f : Fm) : okA f → bitsB f = 0#64 → noV f := by
  induction f using Fm.ind with
  | h o v l ih =>
    intro hA hb
    rw [bitsB] at hb
    obtain ⟨h1, h2⟩ := bitsL_zero l _ hb
    refine noV_iff.2 ⟨?_, fun g hg => ih g hg (okA_sub hA hg) (h2 g hg)⟩
    rintro rfl
    have hok := hA _ (nodes_self _)
    rw [okNode_eq] at hok
    simp only [Bool.and_eq_true, if_true, decide_eq_true_eq] at hok
    obtain ⟨_, hv1, hv2⟩ := hok
    have hc : v = 0 ∨ v = 1 ∨ v = 2 ∨ v = 3 ∨ v = 4 ∨ v = 5 := by omega
    rcases hc with rfl | rfl | rfl | rfl | rfl | rfl <;> revert h1 <;> decide
section
variable {gl : GL}
theorem bits_k (o v : Int) (l : List Fm) (hA : okA (.mk o v l)) (ih : ∀ g, Ctr (C gl) 65 [encF g] (g ∈ l) (.int .i64 (bitsB g).toInt)) : PCall (C gl) 65 [encF (.mk o v l)] (.int .i64 (bitsB (.mk o v l)).toInt) := by
  have hlen := (shor_okA _ hA).1
  have hok := hA _ (nodes_self _)
  have hs : o = 2 → shlI .i64 1 v = (bitV o v).toInt ∧ 0 ≤ v := by
    rintro rfl
    rw [okNode_eq] at hok
    simp only [Bool.and_eq_true, if_true, decide_eq_true_eq] at hok
    obtain ⟨_, hv1, hv2⟩ := hok
    have hc : v = 0 ∨ v = 1 ∨ v = 2 ∨ v = 3 ∨ v = 4 ∨ v = 5 := by omega
    rcases hc with rfl | rfl | rfl | rfl | rfl | rfl <;> exact ⟨by decide, by omega⟩
  refine pcallX (callX_of b65 (by simp [Tryd.ntmps65]) ?_) (by simp only [AllCl, cl_encF, and_true]) (.int _ _)
  refine W.of ?_
  rw [Tryd.ntmps65]
  simp only [toK, codeOf, Tryd.f65, go_sem, seval, reduceCtorEq]
  rw [bitsB]
  have fin : ∀ a : BitVec 64, bitsL a [] = a := fun a => by rw [bitsL]
  cases h2 : (o == 2) with
  | true =>
    obtain ⟨e, h0⟩ := hs (eq_of_beq h2)
    generalize bitV o v = a at e
    have H := And.intro @h2 (And.intro @e (And.intro @h0 @fin))
    refine autoA ?_
    try exact trivial
    refine rangeA (l.length) [1, 13] [3] (fun i => [.int .i64 (bitsL a (l.take i)).toInt]) (fun i => (Sto.none.add (.box [.int .i64 o, .int .i64 v, .list false (encFs l)]))) ?_ ?_
    · intro i hi
      have e1 := (bitsL_take a hi).symm
      have H := And.intro @hi (And.intro @orI_bv @e1)
      refine autoA ?_
      try exact trivial
      exact cutA
    · rw [List.take_length]
      have H := trivial
      refine autoA ?_
      try exact trivial
      first | exact cut_none _ | exact finA
  | false =>
    have e : (0 : Int) = (bitV o v).toInt := by
      unfold bitV
      rw [if_neg (beq_eq_false_iff_ne.1 h2)]; decide
    have h0 : (bitV o v).toInt = 0 := e.symm
    generalize bitV o v = a at e h0
    have H := And.intro @h2 (And.intro @h0 @fin)
    refine autoA ?_
    try exact trivial
    refine rangeA (l.length) [1, 13] [3] (fun i => [.int .i64 (bitsL a (l.take i)).toInt]) (fun i => (Sto.none.add (.box [.int .i64 o, .int .i64 v, .list false (encFs l)]))) ?_ ?_
    · intro i hi
      have e1 := (bitsL_take a hi).symm
      have H := And.intro @hi (And.intro @orI_bv @e1)
      refine autoA ?_
      try exact trivial
      exact cutA
    · rw [List.take_length]
      have H := trivial
      refine autoA ?_
      try exact trivial
      first | exact cut_none _ | exact finA
theorem bits_ok (f : Fm) : okA f → PCall (C gl) 65 [encF f] (.int .i64 (bitsB f).toInt) := by
  induction f using Fm.ind with
  | h o v l ih =>
    intro h
    exact bits_k o v l h fun g => ⟨fun hg => ih g hg (okA_sub h hg)⟩
instance bits_i (f : Fm) : Ctr (C gl) 65 [encF f] (okA f) (.int .i64 (bitsB f).toInt) := ⟨bits_ok f⟩
/-! ## Plain -/
theorem plain_k (o v : Int) (l : List Fm) (hA : okA (.mk o v l)) (ih : ∀ g, Ctr (C gl) 123 [encF g] (g ∈ l) (.bool (plainF g))) : PCall (C gl) 123 [encF (.mk o v l)] (.bool (plainF (.mk o v l))) := by
  have hlen := (shor_okA _ hA).1
  have h3 : o = 3 → ∃ g, l = [g] := fun h => by
    obtain ⟨g, hg⟩ := okA_op3 hA h
    exact ⟨g, hg⟩
  refine pcallX (callX_of b123 (by simp [Tryd.ntmps123]) ?_) (by simp only [AllCl, cl_encF, and_true]) (.bool _)
  have hbad : badF (.mk o v l) = ((o == 0) || ((o == 1) || ((o == 3) && ((arg (.mk o v l) 0).op == 3)))) := rfl
  refine W.of ?_
  rw [Tryd.ntmps123]
  simp only [toK, codeOf, Tryd.f123, go_sem, seval, reduceCtorEq]
  rw [plainF, plainL_all]
  cases h0 : (o == 0) with
  | true =>
    rw [h0, Bool.true_or] at hbad
    rw [hbad]
    have H := @h0
    refine autoA ?_
    try exact trivial
    first | exact cut_none _ | exact finA
  | false =>
  cases h1 : (o == 1) with
  | true =>
    rw [h0, h1, Bool.false_or, Bool.true_or] at hbad
    rw [hbad]
    have H := And.intro @h0 @h1
    refine autoA ?_
    try exact trivial
    first | exact cut_none _ | exact finA
  | false =>
  cases k3 : (o == 3) with
  | true =>
    obtain ⟨g, rfl⟩ := h3 (eq_of_beq k3)
    have ha : (arg (.mk o v [g]) 0).op = g.op := rfl
    cases k4 : (g.op == 3) with
    | true =>
      rw [h0, h1, k3, ha, k4] at hbad
      rw [hbad]
      have H := And.intro @h0 (And.intro @h1 (And.intro @k3 @k4))
      refine autoA ?_
      try exact trivial
      first | exact cut_none _ | exact finA
    | false =>
      rw [h0, h1, k3, ha, k4] at hbad
      rw [hbad]
      have H := And.intro @h0 (And.intro @h1 (And.intro @k3 @k4))
      refine autoA ?_
      try exact trivial
      refine rangeAI (1) [1, 27] [] (fun i => []) (fun i => (Sto.none.add (.box [.int .i64 o, .int .i64 v, .list false (encFs [g])]))) (fun i => 0 < i → plainF g = true) ?_ ?_
      · intro i hi hI
        obtain rfl : i = 0 := by omega
        have hm : g ∈ [g] := by simp
        cases hp : plainF g with
        | true =>
          have H := And.intro @hp @hm
          refine autoA ?_
          try exact trivial
          exact cutA
        | false =>
          have H := And.intro @hp @hm
          refine autoA ?_
          try exact trivial
          first | exact cut_none _ | exact finA
      · intro hI
        rw [hI Nat.one_pos]
        have H := trivial
        refine autoA ?_
        try exact trivial
        first | exact cut_none _ | exact finA
  | false =>
    rw [h0, h1, k3] at hbad
    rw [hbad]
    have H := And.intro @h0 (And.intro @h1 @k3)
    refine autoA ?_
    try exact trivial
    refine rangeAI (l.length) [1, 27] [] (fun i => []) (fun i => (Sto.none.add (.box [.int .i64 o, .int .i64 v, .list false (encFs l)]))) (fun i => (l.take i).all plainF = true) ?_ ?_
    · intro i hi hI
      cases hp : plainF l[i] with
      | true =>
        have H := And.intro @hi @hp
        refine autoA ?_
        try exact trivial
        refine ⟨?_, cutA⟩
        rw [← List.take_append_getElem hi, List.all_append, hI]; simp [hp]
      | false =>
        have e : l.all plainF = false := by
          rw [List.all_eq_false]; exact ⟨_, List.getElem_mem hi, by rw [hp]; decide⟩
        rw [e]
        have H := And.intro @hi @hp
        refine autoA ?_
        try exact trivial
        first | exact cut_none _ | exact finA
    · intro hI
      rw [List.take_length] at hI
      rw [hI]
      have H := trivial
      refine autoA ?_
      try exact trivial
      first | exact cut_none _ | exact finA
theorem plain_ok (f : Fm) : okA f → PCall (C gl) 123 [encF f] (.bool (plainF f)) := by
  induction f using Fm.ind with
  | h o v l ih =>
    intro h
    exact plain_k o v l h fun g => ⟨fun hg => ih g hg (okA_sub h hg)⟩
instance plain_i (f : Fm) : Ctr (C gl) 123 [encF f] (okA f) (.bool (plainF f)) := ⟨plain_ok f⟩
theorem plainS_ok (f : Fm) (hA : okA f) : PCall (C gl) 63 [encF f] (.bool (plainS f)) := by
  refine pcallX (callX_of b63 (by simp [Tryd.ntmps63]) ?_) (by simp only [AllCl, cl_encF, and_true]) (.bool _)
  refine W.of ?_
  rw [Tryd.ntmps63]
  simp only [toK, codeOf, Tryd.f63, go_sem, seval, reduceCtorEq]
  cases h0 : (f.op == 0) with
  | true =>
    rw [show plainS f = true by unfold plainS; rw [h0]; rfl]
    have H := @h0
    refine autoA ?_
    try exact trivial
    first | exact cut_none _ | exact finA
  | false =>
  cases h1 : (f.op == 1) with
  | true =>
    rw [show plainS f = true by unfold plainS; rw [h0, h1]; rfl]
    have H := And.intro @h0 @h1
    refine autoA ?_
    try exact trivial
    first | exact cut_none _ | exact finA
  | false =>
    rw [show plainS f = plainF f by unfold plainS; rw [h0, h1]; rfl]
    have H := And.intro @h0 (And.intro @h1 @hA)
    refine autoA ?_
    try exact trivial
    first | exact cut_none _ | exact finA
instance plainS_i (f : Fm) : Ctr (C gl) 63 [encF f] (okA f) (.bool (plainS f)) := ⟨plainS_ok f⟩
end
end Go.Sx
