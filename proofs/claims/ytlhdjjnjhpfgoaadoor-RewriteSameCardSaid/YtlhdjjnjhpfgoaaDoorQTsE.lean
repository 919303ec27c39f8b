import Derived.Test.YtlhdjjnjhpfgoaaDoorQTrK
import Derived.Test.YtlhdjjnjhpfgoaaDoorLgAv
import Derived.Test.YtlhdjjnjhpfgoaaDoorLgAw
set_option maxRecDepth 100000
set_option maxHeartbeats 4000000
set_option linter.unusedSimpArgs false
set_option linter.unusedVariables false
set_option linter.unnecessarySimpa false
namespace Go.Sx
open Go Go.Lg Go.Proofs
/-! ## What a formula says of a word at a position -/
def untP (g h : Nat → Prop) (k : Nat) : Prop := ∃ j, k ≤ j ∧ h j ∧ ∀ i, k ≤ i → i < j → g i
def alwP (g : Nat → Prop) (k : Nat) : Prop := ∀ j, k ≤ j → g j
def svC (W : Nat → Int → Prop) (o v : Int) (l : List (Nat → Prop)) : Nat → Prop :=
  let g := l.getD 0 (fun _ => False)
  let h := l.getD 1 (fun _ => False)
  if o = 0 then fun _ => True
  else if o = 2 then fun k => W k v
  else if o = 3 then fun k => ¬ g k
  else if o = 4 then fun k => g k ∧ h k
  else if o = 5 then fun k => g k ∨ h k
  else if o = 6 then fun k => g k → h k
  else if o = 7 then fun k => (g k ↔ h k)
  else if o = 8 then fun k => g (k + 1)
  else if o = 9 then fun k => untP (fun _ => True) g k
  else if o = 10 then fun k => ¬ untP (fun _ => True) (fun i => ¬ g i) k
  else if o = 11 then fun k => untP g h k
  else if o = 12 then fun k => ¬ untP (fun i => ¬ g i) (fun i => ¬ h i) k
  else if o = 13 then fun k => untP g h k ∨ ¬ untP (fun _ => True) (fun i => ¬ g i) k
  else fun _ => False
mutual
def sv (W : Nat → Int → Prop) : Fm → Nat → Prop
  | .mk o v l => svC W o v (svL W l)
def svL (W : Nat → Int → Prop) : List Fm → List (Nat → Prop)
  | [] => []
  | f :: l => sv W f :: svL W l
end
section
variable {W : Nat → Int → Prop}
theorem svL_map : ∀ l : List Fm, svL W l = l.map (sv W)
  | [] => rfl
  | f :: l => by rw [svL, svL_map l]; rfl
/-- g says what f says. -/
def SV (W : Nat → Int → Prop) (f g : Fm) : Prop := sv W g = sv W f
theorem SV.refl (f : Fm) : SV W f f := rfl
theorem SV.trans {f g h : Fm} (h1 : SV W f g) (h2 : SV W g h) : SV W f h := Eq.trans h2 h1
theorem sv_op0 {f : Fm} (h : f.op = 0) : sv W f = fun _ => True := by
  obtain ⟨o, v, l⟩ := f
  simp only [fm_op] at h
  subst h; rfl
theorem sv_op1 {f : Fm} (h : f.op = 1) : sv W f = fun _ => False := by
  obtain ⟨o, v, l⟩ := f
  simp only [fm_op] at h
  subst h; rfl
theorem sv_const (b : Bool) : sv W (constF b) = fun _ => (b = true) := by
  cases b
  · funext k; exact propext ⟨fun h => h.elim, fun h => by cases h⟩
  · funext k; exact propext ⟨fun _ => rfl, fun _ => trivial⟩
theorem sv_3 {v : Int} {g : Fm} : sv W (.mk 3 v [g]) = fun k => ¬ sv W g k := rfl
theorem sv_4 {v : Int} {g h : Fm} : sv W (.mk 4 v [g, h]) = fun k => sv W g k ∧ sv W h k := rfl
theorem sv_5 {v : Int} {g h : Fm} : sv W (.mk 5 v [g, h]) = fun k => sv W g k ∨ sv W h k := rfl
theorem sv_6 {v : Int} {g h : Fm} : sv W (.mk 6 v [g, h]) = fun k => (sv W g k → sv W h k) := rfl
theorem sv_7 {v : Int} {g h : Fm} : sv W (.mk 7 v [g, h]) = fun k => (sv W g k ↔ sv W h k) := rfl
theorem sv_8 {v : Int} {g : Fm} : sv W (.mk 8 v [g]) = fun k => sv W g (k + 1) := rfl
theorem sv_9 {v : Int} {g : Fm} : sv W (.mk 9 v [g]) = fun k => untP (fun _ => True) (sv W g) k := rfl
theorem sv_10 {v : Int} {g : Fm} : sv W (.mk 10 v [g]) = fun k => ¬ untP (fun _ => True) (fun i => ¬ sv W g i) k := rfl
theorem sv_11 {v : Int} {g h : Fm} : sv W (.mk 11 v [g, h]) = fun k => untP (sv W g) (sv W h) k := rfl
theorem sv_12 {v : Int} {g h : Fm} : sv W (.mk 12 v [g, h]) = fun k => ¬ untP (fun i => ¬ sv W g i) (fun i => ¬ sv W h i) k := rfl
theorem sv_13 {v : Int} {g h : Fm} : sv W (.mk 13 v [g, h]) = fun k => untP (sv W g) (sv W h) k ∨ ¬ untP (fun _ => True) (fun i => ¬ sv W g i) k := rfl
theorem untP_self {g h : Nat → Prop} {k : Nat} (hk : h k) : untP g h k := ⟨k, Nat.le_refl _, hk, fun i h1 h2 => absurd h2 (by omega)⟩
theorem untP_F {g : Nat → Prop} {k : Nat} : ¬ untP g (fun _ => False) k := fun ⟨_, _, h, _⟩ => h
theorem untP_FF {g : Nat → Prop} : untP g (fun _ => False) = fun _ => False := funext fun k => propext ⟨untP_F, fun h => h.elim⟩
theorem untP_T {g : Nat → Prop} : untP g (fun _ => True) = fun _ => True := funext fun k => propext ⟨fun _ => trivial, fun _ => untP_self trivial⟩
/-- Where the first is false, now or never. -/
theorem untP_now {h : Nat → Prop} : untP (fun _ => False) h = h := funext fun k => propext ⟨fun ⟨j, h1, h2, h3⟩ => by
    by_cases e : k = j
    · rw [e]; exact h2
    · exact (h3 k (Nat.le_refl _) (by omega)).elim, untP_self⟩
theorem untP_same {g : Nat → Prop} : untP g g = g := funext fun k => propext ⟨fun ⟨j, h1, h2, h3⟩ => by
    by_cases e : k = j
    · rw [e]; exact h2
    · exact h3 k (Nat.le_refl _) (by omega), untP_self⟩
theorem untP_idem {h : Nat → Prop} : untP (fun _ => True) (untP (fun _ => True) h) = untP (fun _ => True) h := funext fun k => propext ⟨fun ⟨j, h1, ⟨i, h2, h3, _⟩, _⟩ => ⟨i, by omega, h3, fun _ _ _ => trivial⟩, untP_self⟩
theorem nnF {g : Nat → Prop} : (fun i => ¬ ¬ g i) = g := funext fun i => propext Classical.not_not
theorem sv_not {g : Fm} (h : okA g) : sv W (notF g) = fun k => ¬ sv W g k := by
  unfold notF
  by_cases h0 : (g.op == 0) = true
  · rw [if_pos h0, sv_op0 (eq_of_beq h0)]; funext k; exact propext ⟨fun h => h.elim, fun h => (h trivial).elim⟩
  rw [if_neg h0]
  by_cases h1 : (g.op == 1) = true
  · rw [if_pos h1, sv_op1 (eq_of_beq h1)]; funext k; exact propext ⟨fun _ h => h, fun _ => trivial⟩
  rw [if_neg h1]
  by_cases h3 : (g.op == 3) = true
  · rw [if_pos h3]
    obtain ⟨x, hx⟩ := okA_op3 h (eq_of_beq h3)
    have e := (args1 hx).1
    rw [e]
    obtain ⟨o, v, l⟩ := g
    simp only [fm_args, fm_op] at hx h3
    have h3 := eq_of_beq h3
    subst hx; subst h3
    rw [sv_3]; exact nnF.symm
  · rw [if_neg h3]; rfl
theorem untP_TT {k : Nat} : untP (fun _ => True) (fun _ => True) k := untP_self trivial
theorem nTT : (fun _ : Nat => ¬ True) = fun _ => False := funext fun _ => propext ⟨fun h => h trivial, fun h => h.elim⟩
theorem nFF : (fun _ : Nat => ¬ False) = fun _ => True := funext fun _ => propext ⟨fun _ => trivial, fun _ h => h⟩
theorem ops1 {o v : Int} {g : Fm} (hA : okA (.mk o v [g])) : o = 3 ∨ o = 8 ∨ o = 9 ∨ o = 10 := by
  have hok := hA _ (nodes_self _)
  rw [okNode_eq] at hok
  simp only [Bool.and_eq_true] at hok
  obtain ⟨⟨⟨ho1, ho2⟩, hal⟩, hv⟩ := hok
  replace ho1 := of_decide_eq_true ho1
  replace ho2 := of_decide_eq_true ho2
  replace hal := of_decide_eq_true hal
  have hcs : o = 0 ∨ o = 1 ∨ o = 2 ∨ o = 3 ∨ o = 4 ∨ o = 5 ∨ o = 6 ∨ o = 7 ∨ o = 8 ∨ o = 9 ∨ o = 10 ∨ o = 11 ∨ o = 12 ∨ o = 13 := by omega
  rcases hcs with rfl | rfl | rfl | rfl | rfl | rfl | rfl | rfl | rfl | rfl | rfl | rfl | rfl | rfl <;> first | omega | (exfalso; simp [arityL] at hal)
theorem ops2' {o v : Int} {a b : Fm} (hA : okA (.mk o v [a, b])) : o = 4 ∨ o = 5 ∨ o = 6 ∨ o = 7 ∨ o = 11 ∨ o = 12 ∨ o = 13 := by
  have hok := hA _ (nodes_self _)
  rw [okNode_eq] at hok
  simp only [Bool.and_eq_true] at hok
  obtain ⟨⟨⟨ho1, ho2⟩, hal⟩, hv⟩ := hok
  replace ho1 := of_decide_eq_true ho1
  replace ho2 := of_decide_eq_true ho2
  replace hal := of_decide_eq_true hal
  have hcs : o = 0 ∨ o = 1 ∨ o = 2 ∨ o = 3 ∨ o = 4 ∨ o = 5 ∨ o = 6 ∨ o = 7 ∨ o = 8 ∨ o = 9 ∨ o = 10 ∨ o = 11 ∨ o = 12 ∨ o = 13 := by omega
  rcases hcs with rfl | rfl | rfl | rfl | rfl | rfl | rfl | rfl | rfl | rfl | rfl | rfl | rfl | rfl <;> first | omega | (exfalso; simp [arityL] at hal)
theorem okA_un1 {g : Fm} (h : okA g) (hk : g.op = 3 ∨ g.op = 9 ∨ g.op = 10) : ∃ x, g.args = [x] := by
  have := h g (by cases g; exact nodes_self _)
  obtain ⟨o, v, l⟩ := g
  rw [okNode_eq] at this
  simp only [Bool.and_eq_true] at this
  simp only [fm_op] at hk
  have hl : (l.length : Int) = arityL.getD o.toNat 0 := of_decide_eq_true this.1.2
  have h1 : l.length = 1 := by
    rcases hk with rfl | rfl | rfl
    all_goals (have e : (l.length : Int) = 1 := hl; omega)
  exact List.length_eq_one_iff.1 h1
theorem sv_one {o v : Int} {g : Fm} (hA : okA (.mk o v [g])) : SV W (.mk o v [g]) (oneF (.mk o v [g])).1 := by
  have hg : okA g := okA_sub hA List.mem_cons_self
  have hn := sv_not (W := W) hg
  have ha : arg (.mk o v [g]) 0 = g := rfl
  have ho := ops1 hA
  unfold oneF
  simp only [ha, fm_op]
  by_cases h3 : (o == 3) = true
  · rw [if_pos h3]
    have h3 := eq_of_beq h3
    subst h3
    have k : SV W (.mk 3 v [g]) (notF g) := hn
    repeat' split
    all_goals first | exact k | exact .refl _
  · rw [if_neg h3]
    have h3 : o ≠ 3 := fun h => h3 (by rw [h]; rfl)
    by_cases k0 : (g.op == 0) = true
    · rw [if_pos k0]
      show sv W g = _
      have e := sv_op0 (W := W) (eq_of_beq k0)
      rcases ho with rfl | rfl | rfl | rfl
      · exact absurd rfl h3
      · rw [sv_8, e]
      · rw [sv_9, e, untP_T]
      · rw [sv_10, e, nTT, untP_FF]; exact nFF.symm
    rw [if_neg k0]
    by_cases k1 : (g.op == 1) = true
    · rw [if_pos k1]
      show sv W g = _
      have e := sv_op1 (W := W) (eq_of_beq k1)
      rcases ho with rfl | rfl | rfl | rfl
      · exact absurd rfl h3
      · rw [sv_8, e]
      · rw [sv_9, e, untP_FF]
      · rw [sv_10, e, nFF, untP_T]; exact nTT.symm
    rw [if_neg k1]
    by_cases k2 : (o == g.op) = true
    · rw [if_pos k2]
      replace k2 := eq_of_beq k2
      by_cases k3 : (o == 9) = true
      · rw [if_pos k3]
        have k3 := eq_of_beq k3
        subst k3
        obtain ⟨x, hx⟩ := okA_un1 hg (.inr (.inl k2.symm))
        obtain ⟨o, v', l⟩ := g
        simp only [fm_args, fm_op] at hx k2
        subst hx; subst k2
        show sv W _ = _
        rw [sv_9 (g := .mk 9 v' [x]), sv_9]
        exact untP_idem.symm
      rw [if_neg k3]
      by_cases k4 : (o == 10) = true
      · rw [if_pos k4]
        have k4 := eq_of_beq k4
        subst k4
        obtain ⟨x, hx⟩ := okA_un1 hg (.inr (.inr k2.symm))
        obtain ⟨o, v', l⟩ := g
        simp only [fm_args, fm_op] at hx k2
        subst hx; subst k2
        show sv W _ = _
        rw [sv_10 (g := .mk 10 v' [x]), sv_10, nnF, untP_idem]
      rw [if_neg k4]; exact .refl _
    rw [if_neg k2]; exact .refl _

theorem sv_same2 {o v : Int} {a b : Fm} (hA : okA (.mk o v [a, b])) (h : (same2 (.mk o v [a, b])).2 = true) : SV W (.mk o v [a, b]) (same2 (.mk o v [a, b])).1 := by
  have h0 : arg (.mk o v [a, b]) 0 = a := rfl
  have h1 : arg (.mk o v [a, b]) 1 = b := rfl
  have ho := ops2' hA
  unfold same2 at h ⊢
  simp only [h0, h1, fm_op] at h ⊢
  by_cases hs : sameF a b = true
  · rw [if_pos hs]
    have := (sameF_iff a b).1 hs
    subst this
    rcases ho with rfl | rfl | rfl | rfl | rfl | rfl | rfl
    · exact funext fun k => propext ⟨fun h => ⟨h, h⟩, fun h => h.1⟩
    · exact funext fun k => propext ⟨fun h => .inl h, fun h => h.elim id id⟩
    · exact (sv_const true).trans (funext fun k => propext ⟨fun _ h => h, fun _ => rfl⟩)
    · exact (sv_const true).trans (funext fun k => propext ⟨fun _ => Iff.rfl, fun _ => rfl⟩)
    · exact untP_same.symm
    · show sv W a = fun k => ¬ untP (fun i => ¬ sv W a i) (fun i => ¬ sv W a i) k
      rw [untP_same]; exact nnF.symm
    · show sv W a = fun k => untP (sv W a) (sv W a) k ∨ ¬ untP (fun _ => True) (fun i => ¬ sv W a i) k
      rw [untP_same]
      exact funext fun k => propext ⟨fun h => .inl h, fun h => h.elim id fun h => Classical.byContradiction fun hn => h (untP_self hn)⟩
  · rw [if_neg hs] at h; cases h
theorem sv_one9 {g : Fm} (hg : okA g) : sv W (oneF (.mk 9 0 [g])).1 = fun k => untP (fun _ => True) (sv W g) k := by
  have hA : okA (.mk 9 0 [g]) := okA_iff.2 ⟨rfl, fun x hx => by rw [List.mem_singleton] at hx; subst hx; exact hg⟩
  exact Eq.trans (sv_one hA) sv_9
theorem sv_one10 {g : Fm} (hg : okA g) : sv W (oneF (.mk 10 0 [g])).1 = fun k => ¬ untP (fun _ => True) (fun i => ¬ sv W g i) k := by
  have hA : okA (.mk 10 0 [g]) := okA_iff.2 ⟨rfl, fun x hx => by rw [List.mem_singleton] at hx; subst hx; exact hg⟩
  exact Eq.trans (sv_one hA) sv_10
theorem sv_first {o v : Int} {a b : Fm} (hA : okA (.mk o v [a, b])) (h : (firstF (.mk o v [a, b])).2 = true) : SV W (.mk o v [a, b]) (firstF (.mk o v [a, b])).1 := by
  have h0 : arg (.mk o v [a, b]) 0 = a := rfl
  have h1 : arg (.mk o v [a, b]) 1 = b := rfl
  have ho := ops2' hA
  have hb : okA b := okA_sub hA (List.mem_cons_of_mem _ List.mem_cons_self)
  have n := sv_not (W := W) hb
  have u9 := sv_one9 (W := W) hb
  have u10 := sv_one10 (W := W) hb
  have cT := sv_const (W := W) true
  have keyT : (sv W a = fun _ => True) → SV W (.mk o v [a, b]) (firstC (.mk o v [a, b]) true) := by
    intro hy
    unfold firstC
    simp only [h0, h1, fm_op]
    rcases ho with rfl | rfl | rfl | rfl | rfl | rfl | rfl
    · show sv W b = _; rw [sv_4, hy]; exact funext fun k => propext ⟨fun h => ⟨trivial, h⟩, fun h => h.2⟩
    · show sv W a = _; rw [sv_5, hy]; exact funext fun k => propext ⟨fun h => .inl h, fun _ => trivial⟩
    · show sv W b = _; rw [sv_6, hy]; exact funext fun k => propext ⟨fun h _ => h, fun h => h trivial⟩
    · show sv W b = _; rw [sv_7, hy]; exact funext fun k => propext ⟨fun h => ⟨fun _ => h, fun _ => trivial⟩, fun h => h.1 trivial⟩
    · show sv W (oneF (.mk 9 0 [b])).1 = _; rw [sv_11, u9, hy]
    · show sv W b = _; rw [sv_12, hy, nTT, untP_now]; exact nnF.symm
    · show sv W (constF true) = _; rw [sv_13, cT, hy, nTT]; exact funext fun k => propext ⟨fun _ => .inr untP_F, fun _ => rfl⟩
  have keyF : (sv W a = fun _ => False) → SV W (.mk o v [a, b]) (firstC (.mk o v [a, b]) false) := by
    intro hy
    unfold firstC
    simp only [h0, h1, fm_op]
    rcases ho with rfl | rfl | rfl | rfl | rfl | rfl | rfl
    · show sv W a = _; rw [sv_4, hy]; exact funext fun k => propext ⟨fun h => h.elim, fun h => h.1⟩
    · show sv W b = _; rw [sv_5, hy]; exact funext fun k => propext ⟨fun h => .inr h, fun h => h.elim (fun h => h.elim) id⟩
    · show sv W (constF true) = _; rw [sv_6, cT, hy]; exact funext fun k => propext ⟨fun _ h => h.elim, fun _ => rfl⟩
    · show sv W (notF b) = _; rw [sv_7, n, hy]; exact funext fun k => propext ⟨fun h => ⟨fun x => x.elim, fun x => h x⟩, fun h x => h.2 x⟩
    · show sv W b = _; rw [sv_11, hy]; exact untP_now.symm
    · show sv W (oneF (.mk 10 0 [b])).1 = _; rw [sv_12, u10, hy, nFF]
    · show sv W b = _; rw [sv_13, hy, nFF, untP_now]; exact funext fun k => propext ⟨fun h => .inl h, fun h => h.elim id fun h => (h untP_TT).elim⟩
  unfold firstF at h ⊢
  simp only [h0] at h ⊢
  by_cases k0 : (a.op == 0) = true
  · rw [if_pos k0]; exact keyT (sv_op0 (eq_of_beq k0))
  rw [if_neg k0] at h ⊢
  by_cases k1 : (a.op == 1) = true
  · rw [if_pos k1]; exact keyF (sv_op1 (eq_of_beq k1))
  · rw [if_neg k1] at h; cases h
theorem sv_second {o v : Int} {a b : Fm} (hA : okA (.mk o v [a, b])) (h : (secondF (.mk o v [a, b])).2 = true) : SV W (.mk o v [a, b]) (secondF (.mk o v [a, b])).1 := by
  have h0 : arg (.mk o v [a, b]) 0 = a := rfl
  have h1 : arg (.mk o v [a, b]) 1 = b := rfl
  have ho := ops2' hA
  have ha : okA a := okA_sub hA List.mem_cons_self
  have n := sv_not (W := W) ha
  have u10 := sv_one10 (W := W) ha
  have keyT : (sv W b = fun _ => True) → SV W (.mk o v [a, b]) (secondC (.mk o v [a, b]) true) := by
    intro hy
    unfold secondC
    simp only [h0, h1, fm_op]
    rcases ho with rfl | rfl | rfl | rfl | rfl | rfl | rfl
    · show sv W a = _; rw [sv_4, hy]; exact funext fun k => propext ⟨fun h => ⟨h, trivial⟩, fun h => h.1⟩
    · show sv W b = _; rw [sv_5, hy]; exact funext fun k => propext ⟨fun h => .inr h, fun _ => trivial⟩
    · show sv W b = _; rw [sv_6, hy]; exact funext fun k => propext ⟨fun _ _ => trivial, fun _ => trivial⟩
    · show sv W a = _; rw [sv_7, hy]; exact funext fun k => propext ⟨fun h => ⟨fun _ => trivial, fun _ => h⟩, fun h => h.2 trivial⟩
    · show sv W b = _; rw [sv_11, hy, untP_T]
    · show sv W b = _; rw [sv_12, hy, nTT, untP_FF]; exact nFF.symm
    · show sv W b = _; rw [sv_13, hy]; exact funext fun k => propext ⟨fun _ => .inl (untP_self trivial), fun _ => trivial⟩
  have keyF : (sv W b = fun _ => False) → SV W (.mk o v [a, b]) (secondC (.mk o v [a, b]) false) := by
    intro hy
    unfold secondC
    simp only [h0, h1, fm_op]
    rcases ho with rfl | rfl | rfl | rfl | rfl | rfl | rfl
    · show sv W b = _; rw [sv_4, hy]; exact funext fun k => propext ⟨fun h => h.elim, fun h => h.2⟩
    · show sv W a = _; rw [sv_5, hy]; exact funext fun k => propext ⟨fun h => .inl h, fun h => h.elim id fun h => h.elim⟩
    · show sv W (notF a) = _; rw [sv_6, n, hy]
    · show sv W (notF a) = _; rw [sv_7, n, hy]; exact funext fun k => propext ⟨fun h => ⟨fun x => h x, fun x => x.elim⟩, fun h x => h.1 x⟩
    · show sv W b = _; rw [sv_11, hy]; exact untP_FF.symm
    · show sv W b = _; rw [sv_12, hy, nFF]; exact funext fun k => propext ⟨fun h => h.elim, fun h => h (untP_self trivial)⟩
    · show sv W (oneF (.mk 10 0 [a])).1 = _; rw [sv_13, u10, hy]; exact funext fun k => propext ⟨fun h => .inr h, fun h => h.elim (fun h => (untP_F h).elim) id⟩
  unfold secondF at h ⊢
  simp only [h1] at h ⊢
  by_cases k0 : (b.op == 0) = true
  · rw [if_pos k0]; exact keyT (sv_op0 (eq_of_beq k0))
  rw [if_neg k0] at h ⊢
  by_cases k1 : (b.op == 1) = true
  · rw [if_pos k1]; exact keyF (sv_op1 (eq_of_beq k1))
  · rw [if_neg k1] at h; cases h
theorem sv_rule2 {o v : Int} {a b g : Fm} (h : okA (.mk o v [a, b])) (hr : rule2 (.mk o v [a, b]) = some g) : SV W (.mk o v [a, b]) g := by
  unfold rule2 at hr
  by_cases h1 : (same2 (.mk o v [a, b])).2 = true
  · rw [if_pos h1] at hr; cases hr; exact sv_same2 h h1
  rw [if_neg h1] at hr
  by_cases h2 : (firstF (.mk o v [a, b])).2 = true
  · rw [if_pos h2] at hr; cases hr; exact sv_first h h2
  rw [if_neg h2] at hr
  by_cases h3 : (secondF (.mk o v [a, b])).2 = true
  · rw [if_pos h3] at hr; cases hr; exact sv_second h h3
  rw [if_neg h3] at hr; cases hr
theorem sv_mk : ∀ (n : Nat) (f r : Fm), okA f → mkF n f = some r → SV W f r
  | 0, f, r, _, h => by cases h
  | n + 1, f, r, hA, hm => by
    have h3 := args012 hA
    obtain ⟨o, v, l⟩ := f
    simp only [fm_args] at h3
    rcases h3 with rfl | ⟨g, rfl⟩ | ⟨g, h, rfl⟩
    · simp only [mkF, fm_args, Option.some.injEq] at hm
      subst hm; exact .refl _
    · simp only [mkF, fm_args] at hm
      have s := sv_one (W := W) hA
      by_cases h1 : (oneF (.mk o v [g])).2 = true
      · rw [if_pos h1] at hm
        by_cases h2 : simpleF (oneF (.mk o v [g])).1 = true
        · rw [if_pos h2] at hm; cases hm; exact s
        · rw [if_neg h2] at hm
          exact s.trans (sv_mk n _ r (okA_one hA) hm)
      · rw [if_neg h1] at hm
        cases hm; exact .refl _
    · simp only [mkF, fm_args] at hm
      cases hr : rule2 (.mk o v [g, h]) with
      | none => rw [hr] at hm; cases hm; exact .refl _
      | some x =>
        have s := sv_rule2 (W := W) hA hr
        have k1 := (rule2_some hA hr).1
        rw [hr] at hm
        simp only at hm
        by_cases h2 : simpleF x = true
        · rw [if_pos h2] at hm; cases hm; exact s
        · rw [if_neg h2] at hm
          exact s.trans (sv_mk n _ r k1 hm)
theorem sv_map {o v : Int} {φ : Fm → Fm} {l : List Fm} (h : ∀ g ∈ l, SV W g (φ g)) : SV W (.mk o v l) (.mk o v (l.map φ)) := by
  show svC W o v (svL W (l.map φ)) = svC W o v (svL W l)
  rw [svL_map, svL_map, List.map_map]
  congr 1
  exact List.map_congr_left fun g hg => h g hg
theorem sv_all (f : Fm) : okA f → SV W f (allF f) := by
  induction f using Fm.ind with
  | h o v l ih =>
    intro hA
    have hm : okA (.mk o v (l.map allF)) := okA_map hA fun g hg => okA_all g (okA_sub hA hg)
    rw [allF, allL_map]
    exact (sv_map fun g hg => ih g hg (okA_sub hA hg)).trans (sv_mk _ _ _ hm (mkT_spec hm).1)
theorem sv_sim : ∀ (n : Nat) (f : Fm), nN f ≤ n → okA f → SV W f (simF f)
  | 0, f, h, _ => by have := nN_pos f; omega
  | n + 1, f, h, hA => by
    rcases all_tot f hA with e | e
    · rw [simF_fix e]; exact .refl _
    · rw [simF_lt e]
      exact (sv_all f hA).trans (sv_sim n (allF f) (by omega) (okA_all f hA))
end
end Go.Sx

set_option maxRecDepth 100000
set_option maxHeartbeats 4000000
set_option linter.unusedSimpArgs false
set_option linter.unusedVariables false
set_option linter.unnecessarySimpa false
namespace Go.Sx
open Go Go.Lg Go.Proofs
/-- The first of those that are so. -/
theorem firstN {P : Nat → Prop} : ∀ n, P n → ∃ m, m ≤ n ∧ P m ∧ ∀ i, i < m → ¬ P i := by
  intro n
  induction n using Nat.strongRecOn with
  | ind n ih =>
    intro hn
    by_cases h : ∃ i, i < n ∧ P i
    · obtain ⟨i, h1, h2⟩ := h
      obtain ⟨m, k1, k2, k3⟩ := ih i h1 h2
      exact ⟨m, by omega, k2, k3⟩
    · exact ⟨n, Nat.le_refl _, hn, fun i hi hp => h ⟨i, hi, hp⟩⟩
theorem weak_unt {g h : Nat → Prop} {k : Nat} : (untP g h k ∨ ¬ untP (fun _ => True) (fun i => ¬ g i) k) ↔ ¬ untP (fun i => ¬ h i) (fun i => ¬ g i ∧ ¬ h i) k := by
  constructor
  · rintro (⟨j, h1, h2, h3⟩ | hn) ⟨m, k1, ⟨k2, k3⟩, k4⟩
    · by_cases e : j < m
      · exact k4 j h1 e h2
      · by_cases e2 : j = m
        · exact k3 (e2 ▸ h2)
        · exact k2 (h3 m k1 (by omega))
    · exact hn ⟨m, k1, k2, fun _ _ _ => trivial⟩
  · intro hn
    by_cases ha : untP (fun _ => True) (fun i => ¬ g i) k
    · left
      obtain ⟨n, h1, h2, _⟩ := ha
      obtain ⟨m, k0, ⟨k1, k2⟩, k3⟩ := firstN (P := fun i => k ≤ i ∧ ¬ g i) n ⟨h1, h2⟩
      by_cases hh : ∃ j, k ≤ j ∧ j ≤ m ∧ h j
      · obtain ⟨j, q1, q2, q3⟩ := hh
        exact ⟨j, q1, q3, fun i i1 i2 => Classical.byContradiction fun hg => k3 i (by omega) ⟨i1, hg⟩⟩
      · exact (hn ⟨m, k1, ⟨k2, fun hm => hh ⟨m, k1, Nat.le_refl _, hm⟩⟩, fun i i1 i2 hi => hh ⟨i, i1, by omega, hi⟩⟩).elim
    · exact .inr ha
section
variable {W : Nat → Int → Prop}
theorem sv_fz : sv W fz = fun _ => True := rfl
theorem sv_fno {g : Fm} : sv W (fno g) = fun k => ¬ sv W g k := rfl
theorem sv_fand {g h : Fm} : sv W (fand g h) = fun k => sv W g k ∧ sv W h k := rfl
theorem sv_fup {g h : Fm} : sv W (fup g h) = fun k => untP (sv W g) (sv W h) k := rfl
theorem sv_unt (f : Fm) : okA f → SV W f (untF f) := by
  induction f using Fm.ind with
  | h o v l ih =>
    intro hA
    have hok := hA _ (nodes_self _)
    rw [okNode_eq] at hok
    simp only [Bool.and_eq_true] at hok
    obtain ⟨⟨⟨ho1, ho2⟩, hal⟩, hv⟩ := hok
    replace ho1 := of_decide_eq_true ho1
    replace ho2 := of_decide_eq_true ho2
    replace hal := of_decide_eq_true hal
    have hcs : o = 0 ∨ o = 1 ∨ o = 2 ∨ o = 3 ∨ o = 4 ∨ o = 5 ∨ o = 6 ∨ o = 7 ∨ o = 8 ∨ o = 9 ∨ o = 10 ∨ o = 11 ∨ o = 12 ∨ o = 13 := by omega
    have ih' := fun g hg => ih g hg (okA_sub hA hg)
    clear hv ho1 ho2 ih
    rcases hcs with rfl | rfl | rfl | rfl | rfl | rfl | rfl | rfl | rfl | rfl | rfl | rfl | rfl | rfl
    all_goals rcases l with _ | ⟨g, _ | ⟨h, _ | ⟨x, l⟩⟩⟩
    all_goals try (exfalso; simp [arityL] at hal; done)
    all_goals try (exfalso; simp [arityL] at hal; omega)
    all_goals try have hg : sv W (untF g) = sv W g := ih' g (by simp)
    all_goals try have hh : sv W (untF h) = sv W h := ih' h (by simp)
    all_goals unfold SV
    all_goals simp only [untF, untL, untC, List.getD_cons_zero, List.getD_cons_succ, Int.reduceEq, or_self, or_true, true_or, or_false, false_or, if_true, if_false]
    all_goals try simp only [sv_fno, sv_fand, sv_fup, sv_fz, sv_3, sv_4, sv_5, sv_6, sv_7, sv_8, sv_9, sv_10, sv_11, sv_12, sv_13, *]
    · funext k; exact propext ⟨fun h => h trivial, fun h => h.elim⟩
    · funext k; exact propext ⟨fun hn => Classical.byContradiction fun hc => hn ⟨fun x => hc (.inl x), fun x => hc (.inr x)⟩, fun hd hn => hd.elim hn.1 hn.2⟩
    · funext k; exact propext ⟨fun hn x => Classical.byContradiction fun hc => hn ⟨x, hc⟩, fun hi hn => hn.2 (hi hn.1)⟩
    · funext k; exact propext ⟨fun hn => ⟨fun x => Classical.byContradiction fun hc => hn.1 ⟨x, hc⟩, fun x => Classical.byContradiction fun hc => hn.2 ⟨x, hc⟩⟩, fun hi => ⟨fun hn => hn.2 (hi.1 hn.1), fun hn => hn.2 (hi.2 hn.1)⟩⟩
    · funext k; exact propext weak_unt.symm
theorem sv_prt (f : Fm) : okA f → ∀ k, (∀ g ∈ prtF f, sv W g k) ↔ sv W f k := by
  induction f using Fm.ind with
  | h o v l ih =>
    intro hA k
    have hok := hA _ (nodes_self _)
    have hok2 := hok
    rw [okNode_eq] at hok
    simp only [Bool.and_eq_true] at hok
    obtain ⟨⟨⟨ho1, ho2⟩, hal⟩, hv⟩ := hok
    replace ho1 := of_decide_eq_true ho1
    replace ho2 := of_decide_eq_true ho2
    replace hal := of_decide_eq_true hal
    have hcs : o = 0 ∨ o = 1 ∨ o = 2 ∨ o = 3 ∨ o = 4 ∨ o = 5 ∨ o = 6 ∨ o = 7 ∨ o = 8 ∨ o = 9 ∨ o = 10 ∨ o = 11 ∨ o = 12 ∨ o = 13 := by omega
    by_cases h4 : o = 4
    · subst h4
      obtain ⟨g, h, rfl⟩ := args2 (l := l) hal
      have i1 := ih g (by simp) (okA_sub hA (by simp)) k
      have i2 := ih h (by simp) (okA_sub hA (by simp)) k
      simp only [prtF, prtL, prtC, List.getD_cons_zero, List.getD_cons_succ, if_true, List.mem_append, sv_4]
      rw [← i1, ← i2]
      exact ⟨fun h => ⟨fun x hx => h x (.inl hx), fun x hx => h x (.inr hx)⟩, fun h x hx => hx.elim (h.1 x) (h.2 x)⟩
    by_cases h8 : o = 8 ∨ o = 10
    · obtain ⟨g, rfl⟩ : ∃ g, l = [g] := by rcases h8 with rfl | rfl <;> exact args1' (l := l) hal
      have i1 := ih g (by simp) (okA_sub hA (by simp))
      simp only [prtF, prtL, prtC, List.getD_cons_zero, if_neg h4, if_pos h8, List.mem_map]
      rcases h8 with rfl | rfl
      · simp only [sv_8]
        rw [← i1 (k + 1)]
        exact ⟨fun h x hx => h _ ⟨x, hx, rfl⟩, fun h x hx => by obtain ⟨y, hy, rfl⟩ := hx; exact h y hy⟩
      · simp only [sv_10]
        constructor
        · intro h hn
          obtain ⟨j, j1, j2, _⟩ := hn
          refine j2 ((i1 j).1 fun x hx => Classical.byContradiction fun hc => ?_)
          have := h _ ⟨x, hx, rfl⟩
          rw [sv_10] at this
          exact this ⟨j, j1, hc, fun _ _ _ => trivial⟩
        · rintro hn x ⟨y, hy, rfl⟩
          rw [sv_10]
          rintro ⟨j, j1, j2, _⟩
          exact hn ⟨j, j1, fun hc => j2 ((i1 j).2 hc y hy), fun _ _ _ => trivial⟩
    · simp only [prtF, prtC, if_neg h4, if_neg h8, List.mem_singleton, forall_eq]
/-! ## Next ahead of variables alone -/
def nxtN : Nat → Fm → Fm
  | 0, f => f
  | n + 1, f => .mk 8 0 [nxtN n f]
def pshF : Nat → Fm → Nat → Fm
  | 0, f, _ => f
  | d + 1, .mk o v l, n => if o = 2 then nxtN n (.mk o v l) else if o = 8 then pshF d (l.getD 0 fz) (n + 1) else .mk o 0 (l.map fun g => pshF d g n)
theorem sv_nxt : ∀ (n : Nat) (f : Fm), sv W (nxtN n f) = fun k => sv W f (k + n)
  | 0, f => rfl
  | n + 1, f => by
    rw [nxtN, sv_8, sv_nxt n]
    funext k
    show sv W f (k + 1 + n) = sv W f (k + (n + 1))
    rw [Nat.add_assoc, Nat.add_comm 1 n]
theorem untP_shift {g h : Nat → Prop} {n : Nat} (k : Nat) : untP (fun i => g (i + n)) (fun i => h (i + n)) k ↔ untP g h (k + n) := by
  constructor
  · rintro ⟨j, h1, h2, h3⟩
    exact ⟨j + n, by omega, h2, fun i i1 i2 => by have := h3 (i - n) (by omega) (by omega); simp only [Nat.sub_add_cancel (show n ≤ i by omega)] at this; exact this⟩
  · rintro ⟨j, h1, h2, h3⟩
    refine ⟨j - n, by omega, ?_, fun i i1 i2 => h3 (i + n) (by omega) (by omega)⟩
    show h (j - n + n)
    rwa [Nat.sub_add_cancel (by omega)]
theorem sv_psh : ∀ (d : Nat) (f : Fm) (n : Nat), nN f ≤ d → okA f → sv W (pshF d f n) = fun k => sv W f (k + n)
  | 0, f, n, hd, _ => by have := nN_pos f; omega
  | d + 1, .mk o v l, n, hd, hA => by
    have hok := hA _ (nodes_self _)
    rw [okNode_eq] at hok
    simp only [Bool.and_eq_true] at hok
    obtain ⟨⟨⟨ho1, ho2⟩, hal⟩, hv⟩ := hok
    replace ho1 := of_decide_eq_true ho1
    replace ho2 := of_decide_eq_true ho2
    replace hal := of_decide_eq_true hal
    have hcs : o = 0 ∨ o = 1 ∨ o = 2 ∨ o = 3 ∨ o = 4 ∨ o = 5 ∨ o = 6 ∨ o = 7 ∨ o = 8 ∨ o = 9 ∨ o = 10 ∨ o = 11 ∨ o = 12 ∨ o = 13 := by omega
    have ih' : ∀ g ∈ l, ∀ n, sv W (pshF d g n) = fun k => sv W g (k + n) := fun g hg n => sv_psh d g n (by have := nN_sub (o := o) (v := v) hg; omega) (okA_sub hA hg)
    clear hv ho1 ho2
    rw [pshF]
    rcases hcs with rfl | rfl | rfl | rfl | rfl | rfl | rfl | rfl | rfl | rfl | rfl | rfl | rfl | rfl
    all_goals rcases l with _ | ⟨g, _ | ⟨h, _ | ⟨x, l⟩⟩⟩
    all_goals try (exfalso; simp [arityL] at hal; done)
    all_goals try (exfalso; simp [arityL] at hal; omega)
    all_goals try have hg := ih' g (by simp) n
    all_goals try have hh := ih' h (by simp) n
    all_goals simp only [Int.reduceEq, if_true, if_false, List.map_cons, List.map_nil, List.getD_cons_zero]
    all_goals try simp only [sv_3, sv_4, sv_5, sv_6, sv_7, sv_9, sv_10, sv_11, sv_12, sv_13, *]
    · rfl
    · rfl
    · exact sv_nxt n _
    · rw [ih' g (by simp) (n + 1)]; funext k; show sv W g (k + (n + 1)) = sv W g (k + n + 1); rw [Nat.add_assoc]
    · exact funext fun k => propext (untP_shift (g := fun _ => True) k)
    · exact funext fun k => propext (not_congr (untP_shift (g := fun _ => True) (h := fun i => ¬ sv W g i) k))
    · exact funext fun k => propext (untP_shift k)
    · exact funext fun k => propext (not_congr (untP_shift (g := fun i => ¬ sv W g i) (h := fun i => ¬ sv W h i) k))
    · exact funext fun k => propext (or_congr (untP_shift k) (not_congr (untP_shift (g := fun _ => True) (h := fun i => ¬ sv W g i) k)))
end
end Go.Sx

set_option maxRecDepth 100000
set_option maxHeartbeats 4000000
set_option linter.unusedSimpArgs false
set_option linter.unusedVariables false
set_option linter.unnecessarySimpa false
namespace Go.Sx
open Go Go.Lg Go.Proofs
/-! ## Words that turn -/
def bitJ (l v : Int) : Bool := andI .i64 (shrI .i64 l v) 1 == 1
/-- The letter at a position. -/
def letS (s l : List Int) (k : Nat) : Int := if k < s.length then s.getD k 0 else l.getD ((k - s.length) % l.length) 0
def wdS (s l : List Int) (k : Nat) (v : Int) : Prop := bitJ (letS s l k) v = true
def turnsN (s l : List Int) : Nat := s.length + 2 * l.length
def posN (s l : List Int) (j : Nat) : Nat := if j < turnsN s l then j else s.length + (j - s.length) % l.length
def laterN (s l : List Int) (k : Nat) : List Nat := (List.range (turnsN s l)).map fun i => posN s l (k + i)
def Per (a d : Nat) (g : Nat → Prop) : Prop := ∀ i, a ≤ i → (g (i + d) ↔ g i)
theorem Per.unt {a d : Nat} {g h : Nat → Prop} (hg : Per a d g) (hh : Per a d h) : Per a d (untP g h) := by
  intro k hk
  constructor
  · rintro ⟨j, h1, h2, h3⟩
    have e : j = (j - d) + d := by omega
    refine ⟨j - d, by omega, (hh (j - d) (by omega)).1 (e ▸ h2), fun i i1 i2 => (hg i (by omega)).1 (h3 (i + d) (by omega) (by omega))⟩
  · rintro ⟨j, h1, h2, h3⟩
    refine ⟨j + d, by omega, (hh j (by omega)).2 h2, fun i i1 i2 => ?_⟩
    have e : i = (i - d) + d := by omega
    rw [e]
    exact (hg (i - d) (by omega)).2 (h3 (i - d) (by omega) (by omega))
theorem Per.not {a d : Nat} {g : Nat → Prop} (hg : Per a d g) : Per a d (fun i => ¬ g i) := fun i hi => not_congr (hg i hi)
theorem Per.T {a d : Nat} : Per a d (fun _ => True) := fun _ _ => Iff.rfl
theorem per_svC {W : Nat → Int → Prop} {a d : Nat} (hW : ∀ v, Per a d fun k => W k v) {o v : Int} {l : List (Nat → Prop)} (hl : ∀ g ∈ l, Per a d g) : Per a d (svC W o v l) := by
  have hd : ∀ i, Per a d (l.getD i (fun _ => False)) := fun i => by
    rw [List.getD_eq_getElem?_getD]
    cases e : l[i]? with
    | none => exact fun _ _ => Iff.rfl
    | some g => exact hl g (List.mem_of_getElem? e)
  have hg := hd 0
  have hh := hd 1
  unfold svC
  generalize l.getD 0 (fun _ => False) = g at hg
  generalize l.getD 1 (fun _ => False) = h at hh
  dsimp only
  by_cases h0 : o = 0
  · rw [if_pos h0]
    exact .T
  rw [if_neg h0]
  by_cases h2 : o = 2
  · rw [if_pos h2]
    exact hW v
  rw [if_neg h2]
  by_cases h3 : o = 3
  · rw [if_pos h3]
    exact hg.not
  rw [if_neg h3]
  by_cases h4 : o = 4
  · rw [if_pos h4]
    exact fun i hi => and_congr (hg i hi) (hh i hi)
  rw [if_neg h4]
  by_cases h5 : o = 5
  · rw [if_pos h5]
    exact fun i hi => or_congr (hg i hi) (hh i hi)
  rw [if_neg h5]
  by_cases h6 : o = 6
  · rw [if_pos h6]
    exact fun i hi => imp_congr (hg i hi) (hh i hi)
  rw [if_neg h6]
  by_cases h7 : o = 7
  · rw [if_pos h7]
    exact fun i hi => iff_congr (hg i hi) (hh i hi)
  rw [if_neg h7]
  by_cases h8 : o = 8
  · rw [if_pos h8]
    intro i hi
    have := hg (i + 1) (by omega)
    rw [show i + 1 + d = i + d + 1 by omega] at this
    exact this
  rw [if_neg h8]
  by_cases h9 : o = 9
  · rw [if_pos h9]
    exact Per.T.unt hg
  rw [if_neg h9]
  by_cases h10 : o = 10
  · rw [if_pos h10]
    exact (Per.T.unt hg.not).not
  rw [if_neg h10]
  by_cases h11 : o = 11
  · rw [if_pos h11]
    exact hg.unt hh
  rw [if_neg h11]
  by_cases h12 : o = 12
  · rw [if_pos h12]
    exact (hg.not.unt hh.not).not
  rw [if_neg h12]
  by_cases h13 : o = 13
  · rw [if_pos h13]
    exact fun i hi => or_congr (hg.unt hh i hi) ((Per.T.unt hg.not).not i hi)
  rw [if_neg h13]
  exact fun _ _ => Iff.rfl
theorem per_sv {W : Nat → Int → Prop} {a d : Nat} (hW : ∀ v, Per a d fun k => W k v) (f : Fm) : Per a d (sv W f) := by
  induction f using Fm.ind with
  | h o v l ih =>
    show Per a d (svC W o v (svL W l))
    refine per_svC hW fun g hg => ?_
    rw [svL_map] at hg
    obtain ⟨x, hx, rfl⟩ := List.mem_map.1 hg
    exact ih x hx
theorem per_wd (s l : List Int) (v : Int) : Per s.length l.length fun k => wdS s l k v := by
  intro i hi
  have : letS s l (i + l.length) = letS s l i := by
    unfold letS
    rw [if_neg (by omega), if_neg (by omega), show i + l.length - s.length = i - s.length + l.length by omega, Nat.add_mod_right]
  show bitJ (letS s l (i + l.length)) v = true ↔ _
  rw [this]; exact Iff.rfl
theorem Per.mul {a d : Nat} {g : Nat → Prop} (hg : Per a d g) : ∀ (m i : Nat), a ≤ i → (g (i + m * d) ↔ g i)
  | 0, i, hi => by simp
  | m + 1, i, hi => by
    rw [Nat.succ_mul, ← Nat.add_assoc]
    exact (hg (i + m * d) (by omega)).trans (hg.mul m i hi)
theorem per_pos {s l : List Int} {g : Nat → Prop} (hg : Per s.length l.length g) (j : Nat) : g (posN s l j) ↔ g j := by
  unfold posN
  split
  · exact Iff.rfl
  · rename_i h
    unfold turnsN at h
    have e := Nat.mod_add_div (j - s.length) l.length
    have h2 := hg.mul ((j - s.length) / l.length) (s.length + (j - s.length) % l.length) (by omega)
    rw [show s.length + (j - s.length) % l.length + (j - s.length) / l.length * l.length = j by rw [Nat.mul_comm]; omega] at h2
    exact h2.symm
/-- The search through positions. -/
def untB : List Nat → (Nat → Bool) → (Nat → Bool) → Bool
  | [], _, _ => false
  | j :: r, g, h => if h j then true else if g j then untB r g h else false
theorem untB_iff (g h : Nat → Bool) : ∀ js : List Nat, untB js g h = true ↔ ∃ m, m < js.length ∧ h (js.getD m 0) = true ∧ ∀ i, i < m → g (js.getD i 0) = true
  | [] => by simp [untB]
  | j :: r => by
    rw [untB]
    constructor
    · intro hu
      by_cases h1 : h j = true
      · exact ⟨0, by simp, by simpa using h1, fun i hi => absurd hi (by omega)⟩
      · rw [if_neg h1] at hu
        by_cases h2 : g j = true
        · rw [if_pos h2] at hu
          obtain ⟨m, m1, m2, m3⟩ := (untB_iff g h r).1 hu
          refine ⟨m + 1, by simp; omega, by simpa using m2, fun i hi => ?_⟩
          cases i with
          | zero => simpa using h2
          | succ i => simpa using m3 i (by omega)
        · rw [if_neg h2] at hu; cases hu
    · rintro ⟨m, m1, m2, m3⟩
      cases m with
      | zero => rw [if_pos (by simpa using m2)]
      | succ m =>
        have h2 : g j = true := by simpa using m3 0 (by omega)
        split
        · rfl
        · exact (untB_iff g h r).2 ⟨m, by simpa using m1, by simpa using m2, fun i hi => by simpa using m3 (i + 1) (by omega)⟩
theorem later_len (s l : List Int) (k : Nat) : (laterN s l k).length = turnsN s l := by simp [laterN]
theorem later_get {s l : List Int} {k i : Nat} (h : i < turnsN s l) : (laterN s l k).getD i 0 = posN s l (k + i) := by
  unfold laterN
  rw [List.getD_eq_getElem?_getD, List.getElem?_map, List.getElem?_range h]; rfl
theorem pos_lt {s l : List Int} (hl : 0 < l.length) (j : Nat) : posN s l j < turnsN s l := by
  unfold posN
  split
  · assumption
  · have := Nat.mod_lt (j - s.length) hl; unfold turnsN; omega
/-- A search through one turn is a search. -/
theorem untB_unt {s l : List Int} (hl : 0 < l.length) {p q : Nat → Bool} (hp : Per s.length l.length fun i => p i = true) (hq : Per s.length l.length fun i => q i = true) (k : Nat) :
    untB (laterN s l k) p q = true ↔ untP (fun i => p i = true) (fun i => q i = true) k := by
  rw [untB_iff, later_len]
  constructor
  · rintro ⟨m, m1, m2, m3⟩
    rw [later_get m1] at m2
    refine ⟨k + m, by omega, (per_pos hq _).1 m2, fun i i1 i2 => ?_⟩
    have := m3 (i - k) (by omega)
    rw [later_get (by omega), show k + (i - k) = i by omega] at this
    exact (per_pos hp _).1 this
  · rintro ⟨j, j1, j2, j3⟩
    obtain ⟨m, m0, ⟨m1, m2⟩, m3⟩ := firstN (P := fun i => k ≤ i ∧ q i = true) j ⟨j1, j2⟩
    have hm : m < k + turnsN s l := by
      refine Nat.lt_of_not_le fun hge => ?_
      unfold turnsN at hge
      refine m3 (m - l.length) (by omega) ⟨by omega, (hq (m - l.length) (by omega)).1 ?_⟩
      show q (m - l.length + l.length) = true
      rwa [Nat.sub_add_cancel (by omega)]
    refine ⟨m - k, by omega, ?_, fun i hi => ?_⟩
    · rw [later_get (by omega), show k + (m - k) = m by omega]
      exact (per_pos hq _).2 m2
    · rw [later_get (by omega)]
      exact (per_pos hp _).2 (j3 (k + i) (by omega) (by omega))
noncomputable def svB (s l : List Int) (f : Fm) (k : Nat) : Bool := @decide (sv (wdS s l) f k) (Classical.propDecidable _)
theorem svB_iff (s l : List Int) (f : Fm) (k : Nat) : svB s l f k = true ↔ sv (wdS s l) f k := by unfold svB; simp
theorem svB_eq {s l : List Int} {f : Fm} {k : Nat} {b : Bool} (h : b = true ↔ sv (wdS s l) f k) : b = svB s l f k := by
  rw [Bool.eq_iff_iff, svB_iff]; exact h
theorem svB_per (s l : List Int) (f : Fm) : Per s.length l.length fun i => svB s l f i = true := fun i hi => by
  show svB s l f _ = true ↔ svB s l f i = true
  rw [svB_iff, svB_iff]; exact per_sv (per_wd s l) f i hi
theorem svB_fun (s l : List Int) (f : Fm) : (fun i => svB s l f i = true) = sv (wdS s l) f := funext fun i => propext (svB_iff s l f i)
theorem svB_nfun (s l : List Int) (f : Fm) : (fun i => (!svB s l f i) = true) = fun i => ¬ sv (wdS s l) f i := funext fun i => propext (by rw [Bool.not_eq_true', ← Bool.not_eq_true, svB_iff])
theorem svB_pos (s l : List Int) (f : Fm) (j : Nat) : svB s l f (posN s l j) = svB s l f j := by
  rw [Bool.eq_iff_iff]; exact per_pos (svB_per s l f) j
section
variable {s l : List Int} (hl : 0 < l.length)
include hl
theorem tb_9 {v : Int} {g : Fm} (k : Nat) : untB (laterN s l k) (fun _ => true) (svB s l g) = svB s l (.mk 9 v [g]) k := svB_eq (by
  rw [untB_unt hl (fun _ _ => Iff.rfl) (svB_per s l g), svB_fun, sv_9]
  have e : (fun _ : Nat => true = true) = fun _ => True := funext fun _ => propext ⟨fun _ => trivial, fun _ => rfl⟩
  rw [e])
theorem tb_10 {v : Int} {g : Fm} (k : Nat) : (!untB (laterN s l k) (fun _ => true) (fun i => !svB s l g i)) = svB s l (.mk 10 v [g]) k := svB_eq (by
  have hn : Per s.length l.length fun i => (!svB s l g i) = true := by rw [svB_nfun]; exact (per_sv (per_wd s l) g).not
  have e : (fun _ : Nat => true = true) = fun _ => True := funext fun _ => propext ⟨fun _ => trivial, fun _ => rfl⟩
  rw [Bool.not_eq_true', ← Bool.not_eq_true, untB_unt hl (fun _ _ => Iff.rfl) hn, svB_nfun, sv_10, e])
theorem tb_11 {v : Int} {g h : Fm} (k : Nat) : untB (laterN s l k) (svB s l g) (svB s l h) = svB s l (.mk 11 v [g, h]) k := svB_eq (by
  rw [untB_unt hl (svB_per s l g) (svB_per s l h), svB_fun, svB_fun, sv_11])
theorem tb_12 {v : Int} {g h : Fm} (k : Nat) : (!untB (laterN s l k) (fun i => !svB s l g i) (fun i => !svB s l h i)) = svB s l (.mk 12 v [g, h]) k := svB_eq (by
  have hn : ∀ g, Per s.length l.length fun i => (!svB s l g i) = true := fun g => by rw [svB_nfun]; exact (per_sv (per_wd s l) g).not
  rw [Bool.not_eq_true', ← Bool.not_eq_true, untB_unt hl (hn g) (hn h), svB_nfun, svB_nfun, sv_12])
theorem tb_13 {v : Int} {g h : Fm} (k : Nat) : (untB (laterN s l k) (svB s l g) (svB s l h) || !untB (laterN s l k) (fun _ => true) (fun i => !svB s l g i)) = svB s l (.mk 13 v [g, h]) k := svB_eq (by
  rw [Bool.or_eq_true, tb_11 hl (v := 0), tb_10 hl (v := 0), svB_iff, svB_iff, sv_11, sv_10, sv_13])
end
end Go.Sx

set_option maxRecDepth 100000
set_option maxHeartbeats 4000000
set_option linter.unusedSimpArgs false
set_option linter.unusedVariables false
set_option linter.unnecessarySimpa false
namespace Go.Sx
open Go Go.Lg Go.Proofs
theorem b32 {gl : GL} : Body (C gl).P 32 Tryd.f32 (codeOf Tryd.f32) := ⟨Tryd.func32, by kernel_rfl, by kernel_rfl⟩
theorem b44 {gl : GL} : Body (C gl).P 44 Tryd.f44 (codeOf Tryd.f44) := ⟨Tryd.func44, by kernel_rfl, by kernel_rfl⟩
theorem b46 {gl : GL} : Body (C gl).P 46 Tryd.f46 (codeOf Tryd.f46) := ⟨Tryd.func46, by kernel_rfl, by kernel_rfl⟩
theorem b43 {gl : GL} : Body (C gl).P 43 Tryd.f43 (codeOf Tryd.f43) := ⟨Tryd.func43, by kernel_rfl, by kernel_rfl⟩
theorem b45 {gl : GL} : Body (C gl).P 45 Tryd.f45 (codeOf Tryd.f45) := ⟨Tryd.func45, by kernel_rfl, by kernel_rfl⟩
/-! ## The reference's truth of words -/
def intE (x : Int) : AV := .int .i64 x
def natE (x : Nat) : AV := .int .i64 (x : Int)
def encW (s l : List Int) : AV := .agg [.list false (s.map intE), .list false (l.map intE)]
theorem encW_eq (s l : List Int) : encW s l = .agg [.list false (s.map intE), .list false (l.map intE)] := (rfl)
def tabL (n : Nat) (p : Nat → Bool) : List AV := (List.range n).map fun i => AV.bool (p i)
theorem cl_encW (s l : List Int) : Closed (encW s l) := by
  refine .agg _ fun c hc => ?_
  simp only [List.mem_cons, List.not_mem_nil, or_false] at hc
  rcases hc with rfl | rfl
  all_goals
    refine .list _ _ fun x hx => ?_
    obtain ⟨y, _, rfl⟩ := List.mem_map.1 hx
    intro c hc
    simp only [intE, AV.cells, List.mem_singleton] at hc
    subst hc; exact .int _ _
theorem clE_tab (n : Nat) (p : Nat → Bool) : ClE (tabL n p) := clE_map (fun _ => .bool _) _
theorem clE_nat (js : List Nat) : ClE (js.map natE) := clE_map (fun _ => .int _ _) _
theorem tab_len (n : Nat) (p : Nat → Bool) : (tabL n p).length = n := by simp [tabL]
theorem tab_get (n : Nat) (p : Nat → Bool) (i : Nat) (h : i < n) : (tabL n p).getD i .undef = .bool (p i) := by
  unfold tabL; rw [List.getD_eq_getElem?_getD, List.getElem?_map, List.getElem?_range h]; rfl
theorem tab_0 (p : Nat → Bool) : tabL 0 p = [] := (rfl)
theorem tab_s (i : Nat) (p : Nat → Bool) : tabL i p ++ [.bool (p i)] = tabL (i + 1) p := by unfold tabL; rw [List.range_succ, List.map_append]; rfl
theorem tab_ok (i : Nat) (p : Nat → Bool) : OKEs 1 (tabL i p) = True := eq_true (okes_map fun _ => by simp only [go_sem, seval, reduceCtorEq])
theorem tab_bel (m i : Nat) (p : Nat → Bool) : BelE m (tabL i p) = True := eq_true (belE_map (fun _ => .bool _) _)
attribute [go_sem] tab_0 tab_s tab_ok tab_bel tab_len
theorem int_len (s : List Int) : (s.map intE).length = s.length := List.length_map _
theorem nat_len (s : List Nat) : (s.map natE).length = s.length := List.length_map _
theorem int_get (s : List Int) (i : Nat) (h : i < s.length) : (s.map intE).getD i .undef = .int .i64 (s.getD i 0) := by
  rw [List.getD_eq_getElem?_getD, List.getD_eq_getElem?_getD, List.getElem?_map, List.getElem?_eq_getElem h]; rfl
theorem nat_get (s : List Nat) (i : Nat) (h : i < s.length) : (s.map natE).getD i .undef = .int .i64 ((s.getD i 0 : Nat) : Int) := by
  rw [List.getD_eq_getElem?_getD, List.getD_eq_getElem?_getD, List.getElem?_map, List.getElem?_eq_getElem h]; rfl
/-- Words that the walks take. -/
structure WOK (s l : List Int) : Prop where
  pos : 0 < l.length
  few : s.length + 2 * l.length < 100000
section
variable {gl : GL}
theorem turns_ok' (s l : List Int) (h : WOK s l) : PCall (C gl) 32 [encW s l] (.int .i64 (turnsN s l : Nat)) := by
  obtain ⟨h1, h2⟩ := h
  refine pcallX (callX_of b32 (by simp [Tryd.ntmps32]) ?_) (by simp only [AllCl, cl_encW, and_true]) (.int _ _)
  have hs := int_len s
  have hl := int_len l
  have w1 : IntKind.i64.wrap (2 * (l.length : Int)) = ((2 * l.length : Nat) : Int) := by rw [wrap_lt (by omega) (by omega)]; omega
  have w2 : IntKind.i64.wrap ((s.length : Int) + ((2 * l.length : Nat) : Int)) = ((turnsN s l : Nat) : Int) := by rw [wrap_lt (by omega) (by omega)]; unfold turnsN; omega
  refine W.of ?_
  rw [Tryd.ntmps32]
  simp only [toK, codeOf, Tryd.f32, go_sem, seval, reduceCtorEq]
  have H := And.intro @encW_eq (And.intro @hs (And.intro @hl (And.intro @w1 @w2)))
  refine autoA ?_
  try exact trivial
  exact cut_none _
theorem not_ok' (n : Nat) (p : Nat → Bool) (hn : n < 100000) : PCall (C gl) 43 [.list false (tabL n p)] (.list false (tabL n fun i => !p i)) := by
  refine pcallX (callX_of b43 (by simp [Tryd.ntmps43]) ?_) (by simp only [AllCl, cl_list, and_true]; exact clE_tab n p) (by rw [cl_list]; exact clE_tab _ _)
  refine W.of ?_
  rw [Tryd.ntmps43]
  simp only [toK, codeOf, Tryd.f43, go_sem, seval, reduceCtorEq]
  have H := trivial
  refine autoA ?_
  try exact trivial
  refine WK.own0 3 1 (by decide) (by simp only [go_sem, seval, reduceCtorEq]) ?_
  refine rangeA (n) [6] [3] (fun i => [.own 0 (tabL i fun i => !p i)]) (fun i => (Sto.none.add (.tok 1 i))) ?_ ?_
  · intro i hi
    have mg := tab_get n p i hi
    have hsucc := tab_s i fun i => !p i
    have H := And.intro @hi (And.intro @mg @hsucc)
    refine autoA ?_
    try exact trivial
    try exact cutA
  · have H := trivial
    refine autoA ?_
    try exact trivial
    exact cut_none _
theorem notrow_ok' (σ : Sto) (id n : Nat) (hn : n < 100000) (hp : σ.get id = some (.row 1 (List.replicate n (.bool false)) false)) (hl : id < σ.next) : CallX (C gl) 43 [.row id 0 n] σ (.list false (tabL n fun _ => true)) σ := by
  refine callX_of b43 (by simp [Tryd.ntmps43]) ?_
  have nz_id : (id = σ.next) = False := by simp; omega
  have nx_id : ∀ j, (id = σ.next + j) = False := fun j => by simp; omega
  refine W.of ?_
  rw [Tryd.ntmps43]
  simp only [toK, codeOf, Tryd.f43, go_sem, seval, reduceCtorEq]
  have H := And.intro @nz_id (And.intro @nx_id @hp)
  refine autoA ?_
  try exact trivial
  refine WK.own0 3 1 (by decide) (by simp only [go_sem, seval, reduceCtorEq]) ?_
  refine WK.rangeX (n) [6] [3] (fun i => [.own σ.next (tabL i fun _ => true)]) (fun i => (σ.add (.tok 1 i))) (by omega) (by decide) (by simp only [go_sem, seval, reduceCtorEq, nz_id, nx_id]) (by simp only [go_sem, seval, reduceCtorEq, nz_id, nx_id]) (by simp only [go_sem, seval, reduceCtorEq, nz_id, nx_id, List.take_zero]) (by first | rfl | (simp only [go_sem, seval, reduceCtorEq, nz_id, nx_id]; done) | (refine Sto.ext' (by simp only [go_sem, seval, reduceCtorEq, nz_id, nx_id]) (fun i => ?_); simp only [go_sem, seval, reduceCtorEq, nz_id, nx_id]; repeat' split; all_goals (first | rfl | omega | simp_all))) ?_ ?_
  · intro i hi
    have mg : (List.replicate n (AV.bool false)).getD i .undef = .bool false := by rw [List.getD_eq_getElem?_getD, List.getElem?_replicate, if_pos hi]; rfl
    have hln : (List.replicate n (AV.bool false)).length = n := List.length_replicate
    have hsucc := tab_s i fun _ => true
    have H := And.intro @nz_id (And.intro @nx_id (And.intro @hi (And.intro @mg (And.intro @hp (And.intro @hln @hsucc)))))
    refine autoA ?_
    try exact trivial
    try exact cutA
  · have H := And.intro @nz_id (And.intro @nx_id @hp)
    refine autoA ?_
    try exact trivial
    exact cutA
theorem until_ok' (n : Nat) (js : List Nat) (g h : Nat → Bool) (hj : ∀ j ∈ js, j < n) (hl : js.length < 1000000) : PCall (C gl) 46 [.list false (js.map natE), .list false (tabL n g), .list false (tabL n h)] (.bool (untB js g h)) := by
  refine pcallX (callX_of b46 (by simp [Tryd.ntmps46]) ?_) (by simp only [AllCl, cl_list, and_true]; exact ⟨clE_nat js, clE_tab _ _, clE_tab _ _⟩) (.bool _)
  have hjl := nat_len js
  refine W.of ?_
  rw [Tryd.ntmps46]
  simp only [toK, codeOf, Tryd.f46, go_sem, seval, reduceCtorEq]
  have H := @hjl
  refine autoA ?_
  try exact trivial
  refine rangeAI (js.length) [1, 2, 9] [] (fun i => []) (fun i => Sto.none) (fun i => untB (js.drop i) g h = untB js g h) ?_ ?_
  · intro i hi hI
    have hd : js.drop i = js.getD i 0 :: js.drop (i + 1) := by
      rw [List.drop_eq_getElem_cons hi, List.getD_eq_getElem?_getD, List.getElem?_eq_getElem hi]; rfl
    have hlt : js.getD i 0 < n := hj _ (by rw [List.getD_eq_getElem?_getD, List.getElem?_eq_getElem hi]; exact List.getElem_mem hi)
    have e1 := nat_get js i hi
    rw [hd, untB] at hI
    generalize js.getD i 0 = j at *
    have e2 := tab_get n g j hlt
    have e3 := tab_get n h j hlt
    cases q1 : h j with
    | true =>
      rw [q1, if_pos rfl] at hI
      rw [← hI]
      have H := And.intro @hi (And.intro @hjl (And.intro @e1 (And.intro @e2 (And.intro @e3 (And.intro @q1 @hlt)))))
      refine autoA ?_
      try exact trivial
    | false =>
    cases q2 : g j with
    | false =>
      rw [q1, q2, if_neg Bool.false_ne_true, if_neg Bool.false_ne_true] at hI
      rw [← hI]
      have H := And.intro @hi (And.intro @hjl (And.intro @e1 (And.intro @e2 (And.intro @e3 (And.intro @q1 (And.intro @q2 @hlt))))))
      refine autoA ?_
      try exact trivial
    | true =>
      rw [q1, q2, if_neg Bool.false_ne_true, if_pos rfl] at hI
      have H := And.intro @hi (And.intro @hjl (And.intro @e1 (And.intro @e2 (And.intro @e3 (And.intro @q1 (And.intro @q2 @hlt))))))
      refine autoA ?_
      try exact trivial
  · intro hI
    rw [List.drop_length, untB] at hI
    rw [← hI]
    have H := trivial
    refine autoA ?_
    try exact trivial
theorem later_ok' (s l : List Int) (h : WOK s l) (k : Nat) (hk : k ≤ turnsN s l) : PCall (C gl) 44 [encW s l, .int .i64 k] (.list false ((laterN s l k).map natE)) := by
  obtain ⟨h1, h2⟩ := h
  have hT : turnsN s l = s.length + 2 * l.length := rfl
  have ht : Ctr (C gl) 32 [encW s l] True (.int .i64 (turnsN s l : Nat)) := ⟨fun _ => turns_ok' s l ⟨h1, h2⟩⟩
  rw [encW_eq] at ht
  refine pcallX (callX_of b44 (by simp [Tryd.ntmps44]) ?_) (by simp only [AllCl, cl_encW, cl_int, and_true]) (by rw [cl_list]; exact clE_nat _)
  have hs := int_len s
  have hl := int_len l
  refine W.of ?_
  rw [Tryd.ntmps44]
  simp only [toK, codeOf, Tryd.f44, go_sem, seval, reduceCtorEq]
  have H := And.intro @encW_eq (And.intro @hs @hl)
  refine autoA ?_
  repeat' (first | (refine WK.draw (ops := #[_, _, _, _, _, _, _, _, _, _, _, _, _, _, _, _, _]) [dq 0 0, dq 0 0, dq 0 0, dq 0 0, dq 0 0, dq 0 0, dq 0 0, dq 0 0, dq 0 0, dq 0 0, dq 0 0, dq 0 0, dq 0 0, dq 0 0, dq 0 0, dm, dq 0 0] mixed (by kernel_rfl) ?_; refine autoA ?_))
  try exact trivial
  refine WK.own0 6 1 (by decide) (by simp only [go_sem, seval, reduceCtorEq]) ?_
  refine WK.block ?_
  refine WK.loopX [1, 2, 5] [7, 6] (fun i : Nat => [.int .i64 ((k + i : Nat) : Int), .own 1 ((List.range i).map fun a => natE (posN s l (k + a)))]) (fun i => ((Sto.none.add (.box [.list false (s.map intE), .list false (l.map intE)])).add (.tok 1 i))) (fun i => i ≤ turnsN s l) (fun i => turnsN s l - i) 0 (by decide) (by omega) (by simp only [go_sem, seval, reduceCtorEq, List.range_zero, List.map_nil, Nat.add_zero]) rfl ?_
  intro i hi
  have w1 : IntKind.i64.wrap ((k : Int) + ((turnsN s l : Nat) : Int)) = ((k + turnsN s l : Nat) : Int) := by rw [wrap_lt (by omega) (by omega)]; omega
  have hln : ((List.range i).map fun a => natE (posN s l (k + a))).length = i := by simp
  have hok : OKEs 1 ((List.range i).map fun a => natE (posN s l (k + a))) = True := eq_true (okes_map fun _ => by simp only [natE, go_sem, seval, reduceCtorEq])
  have hbe : ∀ m i, BelE m ((List.range i).map fun a => natE (posN s l (k + a))) = True := fun m i => eq_true (belE_map (fun _ => .int _ _) _)
  have hsu : ((List.range i).map fun a => natE (posN s l (k + a))) ++ [.int .i64 (posN s l (k + i) : Nat)] = (List.range (i + 1)).map fun a => natE (posN s l (k + a)) := by rw [List.range_succ, List.map_append]; rfl
  by_cases hn : i < turnsN s l
  · have e1 : decide (((k + i : Nat) : Int) < ((k + turnsN s l : Nat) : Int)) = true := decide_eq_true (by omega)
    have w2 : IntKind.i64.wrap (((k + i : Nat) : Int) + 1) = ((k + (i + 1) : Nat) : Int) := by rw [wrap_lt (by omega) (by omega)]; omega
    by_cases hp : k + i < turnsN s l
    · have e2 : decide (((k + i : Nat) : Int) < ((turnsN s l : Nat) : Int)) = true := decide_eq_true (by omega)
      have e3 : posN s l (k + i) = k + i := by unfold posN; rw [if_pos hp]
      rw [e3] at hsu
      have H := And.intro @w1 (And.intro @w2 (And.intro @e1 (And.intro @e2 (And.intro @hln (And.intro @hok (And.intro @hbe (And.intro @hsu (And.intro @hs @hl))))))))
      refine autoN ?_
      repeat' (first | (refine WK.draw (ops := #[_, _, _, _, _, _, _, _, _, _, _, _, _, _, _, _, _]) [dq 0 0, dq 0 0, dq 0 0, dq 0 0, dq 0 0, dq 0 0, dq 0 0, dq 0 0, dq 0 0, dq 0 0, dq 0 0, dq 0 0, dq 0 0, dq 0 0, dq 0 0, dm, dq 0 0] mixed (by kernel_rfl) ?_; refine autoN ?_))
      try exact trivial
      exact ⟨i + 1, by omega, by omega, ⟨rfl, by rw [List.range_succ]; exact .refl _⟩, cutA⟩
    · have e2 : decide (((k + i : Nat) : Int) < ((turnsN s l : Nat) : Int)) = false := decide_eq_false (by omega)
      have e3 : posN s l (k + i) = s.length + (k + i - s.length) % l.length := by unfold posN; rw [if_neg hp]
      have w3 : IntKind.i64.wrap (((k + i : Nat) : Int) - (s.length : Int)) = ((k + i - s.length : Nat) : Int) := by rw [wrap_lt (by omega) (by omega)]; omega
      have w4 : IntKind.i64.wrap ((s.length : Int) + (((k + i - s.length : Nat) : Int)).tmod (l.length : Int)) = ((posN s l (k + i) : Nat) : Int) := by
        rw [show (((k + i - s.length : Nat) : Int)).tmod (l.length : Int) = (((k + i - s.length) % l.length : Nat) : Int) from rfl, e3]
        have := Nat.mod_lt (k + i - s.length) h1
        rw [wrap_lt (by omega) (by omega)]; omega
      have H := And.intro @w1 (And.intro @w2 (And.intro @w3 (And.intro @w4 (And.intro @e1 (And.intro @e2 (And.intro @hln (And.intro @hok (And.intro @hbe (And.intro @hsu (And.intro @hs @hl))))))))))
      refine autoN ?_
      repeat' (first | (refine WK.draw (ops := #[_, _, _, _, _, _, _, _, _, _, _, _, _, _, _, _, _]) [dq 0 0, dq 0 0, dq 0 0, dq 0 0, dq 0 0, dq 0 0, dq 0 0, dq 0 0, dq 0 0, dq 0 0, dq 0 0, dq 0 0, dq 0 0, dq 0 0, dq 0 0, dm, dq 0 0] mixed (by kernel_rfl) ?_; refine autoN ?_))
      try exact trivial
      exact ⟨i + 1, by omega, by omega, ⟨rfl, by rw [List.range_succ]; exact .refl _⟩, cutA⟩
  · obtain rfl : i = turnsN s l := by omega
    have e1 : decide (((k + turnsN s l : Nat) : Int) < ((k + turnsN s l : Nat) : Int)) = false := decide_eq_false (by omega)
    have e2 : (laterN s l k).map natE = (List.range (turnsN s l)).map fun a => natE (posN s l (k + a)) := by unfold laterN; rw [List.map_map]; rfl
    rw [e2]
    have H := And.intro @w1 @e1
    refine autoA ?_
    repeat' (first | (refine WK.draw (ops := #[_, _, _, _, _, _, _, _, _, _, _, _, _, _, _, _, _]) [dq 0 0, dq 0 0, dq 0 0, dq 0 0, dq 0 0, dq 0 0, dq 0 0, dq 0 0, dq 0 0, dq 0 0, dq 0 0, dq 0 0, dq 0 0, dq 0 0, dq 0 0, dm, dq 0 0] mixed (by kernel_rfl) ?_; refine autoA ?_))
    try exact trivial
    exact ⟨belE_map (fun _ => .int _ _) _, cut_none _⟩
theorem letters_ok (s l : List Int) (h : WOK s l) (k : Nat) (hk : k < 1000000) : PCall (C gl) 45 [encW s l, .int .i64 k] (.int .i64 (letS s l k)) := by
  obtain ⟨h1, h2⟩ := h
  refine pcallX (callX_of b45 (by simp [Tryd.ntmps45]) ?_) (by simp only [AllCl, cl_encW, cl_int, and_true]) (.int _ _)
  have hs := int_len s
  have hl := int_len l
  refine W.of ?_
  rw [Tryd.ntmps45]
  simp only [toK, codeOf, Tryd.f45, go_sem, seval, reduceCtorEq]
  by_cases hk2 : k < s.length
  · have e1 : decide ((k : Int) < (s.length : Int)) = true := decide_eq_true (by omega)
    have e2 := int_get s k hk2
    have e3 : letS s l k = s.getD k 0 := by unfold letS; rw [if_pos hk2]
    rw [e3]
    have H := And.intro @encW_eq (And.intro @hs (And.intro @hl (And.intro @e1 @e2)))
    refine autoA ?_
    repeat' (first | (refine WK.draw0 (ops := #[_, _, _, _, _, _, _, _, _, _, _, _, _, _]) mixed (by kernel_rfl) ?_; refine autoA ?_))
    try exact trivial
    exact cut_none _
  · have e1 : decide ((k : Int) < (s.length : Int)) = false := decide_eq_false (by omega)
    have hm := Nat.mod_lt (k - s.length) h1
    have e2 := int_get l ((k - s.length) % l.length) hm
    have w3 : IntKind.i64.wrap ((k : Int) - (s.length : Int)) = ((k - s.length : Nat) : Int) := by rw [wrap_lt (by omega) (by omega)]; omega
    have w4 : (((k - s.length : Nat) : Int)).tmod (l.length : Int) = (((k - s.length) % l.length : Nat) : Int) := rfl
    have e3 : letS s l k = l.getD ((k - s.length) % l.length) 0 := by unfold letS; rw [if_neg hk2]
    rw [e3]
    have H := And.intro @encW_eq (And.intro @hs (And.intro @hl (And.intro @e1 (And.intro @e2 (And.intro @w3 @w4)))))
    refine autoA ?_
    repeat' (first | (refine WK.draw0 (ops := #[_, _, _, _, _, _, _, _, _, _, _, _, _, _]) mixed (by kernel_rfl) ?_; refine autoA ?_))
    try exact trivial
    exact cut_none _
end
end Go.Sx

set_option maxRecDepth 100000
set_option maxHeartbeats 4000000
set_option linter.unusedSimpArgs false
set_option linter.unusedVariables false
set_option linter.unnecessarySimpa false
namespace Go.Sx
open Go Go.Lg Go.Proofs
theorem b33 {gl : GL} : Body (C gl).P 33 Tryd.f33 (codeOf Tryd.f33) := ⟨Tryd.func33, by kernel_rfl, by kernel_rfl⟩
theorem b15 {gl : GL} : Body (C gl).P 15 Tryd.f15 (codeOf Tryd.f15) := ⟨Tryd.func15, by kernel_rfl, by kernel_rfl⟩
theorem b_ff : (false == false) = true := (rfl)
theorem b_ft : (false == true) = false := (rfl)
theorem b_tf : (true == false) = false := (rfl)
theorem b_tt : (true == true) = true := (rfl)
theorem turnsN_eq (s l : List Int) : turnsN s l = s.length + 2 * l.length := rfl
def filL (n : Nat) (q : Nat → Bool) (i : Nat) : List AV := (List.range i).map (fun j => AV.bool (q j)) ++ List.replicate (n - i) (.bool false)
theorem tab_take (n : Nat) (p : Nat → Bool) : (tabL n p).take n = tabL n p := List.take_of_length_le (by rw [tab_len]; exact Nat.le_refl _)
attribute [go_sem] tab_take
theorem fil_0 (n : Nat) (q : Nat → Bool) : filL n q 0 = List.replicate n (.bool false) := (rfl)
theorem fil_n (n : Nat) (q : Nat → Bool) : filL n q n = tabL n q := by unfold filL tabL; rw [Nat.sub_self]; exact List.append_nil _
theorem fil_len (n : Nat) (q : Nat → Bool) (i : Nat) (h : i < n) : (filL n q i).length = n := by unfold filL; simp; omega
theorem fil_set (n : Nat) (q : Nat → Bool) (i : Nat) (h : i < n) : (filL n q i).set i (.bool (q i)) = filL n q (i + 1) := set_fill (fun j => AV.bool (q j)) _ n i h
theorem fil_F (n : Nat) (i : Nat) (h : i ≤ n) : filL n (fun _ => false) i = List.replicate n (.bool false) := by
  unfold filL
  rw [show (fun _ : Nat => AV.bool false) = Function.const Nat (AV.bool false) from rfl, List.map_const, List.length_range, List.replicate_append_replicate]; congr 1; omega
theorem fil_bel (m n : Nat) (q : Nat → Bool) (i : Nat) : BelE m (filL n q i) = True := eq_true (by unfold filL; rw [belE_append]; exact ⟨belE_map (fun _ => .bool _) _, belE_repl ⟨.bool _, trivial⟩⟩)
attribute [go_sem] fil_bel
section
variable {gl : GL}
theorem tbl0 (s l : List Int) (hw : WOK s l) (v : Int) : PCall (C gl) 33 [encF (.mk 0 v []), encW s l] (.list false (tabL (turnsN s l) (svB s l (.mk 0 v [])))) := by
  have h1 := hw.pos
  have h2 := hw.few
  have hT : turnsN s l = s.length + 2 * l.length := turnsN_eq s l
  have eq : svB s l (.mk 0 v []) = fun i => true := funext fun i => (Eq.symm (svB_eq (by show true = true ↔ True; exact ⟨fun _ => trivial, fun _ => rfl⟩)))
  rw [eq]
  have ct : Ctr (C gl) 32 [encW s l] True (.int .i64 (turnsN s l : Nat)) := ⟨fun _ => turns_ok' s l hw⟩
  have cl : ∀ k : Nat, Ctr (C gl) 44 [encW s l, .int .i64 (k : Int)] (k ≤ turnsN s l) (.list false ((laterN s l k).map natE)) := fun k => ⟨later_ok' s l hw k⟩
  rw [encW_eq] at ct
  simp only [encW_eq] at cl
  refine pcallX (callX_of b33 (by simp [Tryd.ntmps33]) ?_) (by simp only [AllCl, cl_encF, cl_encW, and_true]) (by rw [cl_list]; exact clE_tab _ _)
  refine W.of ?_
  rw [Tryd.ntmps33]
  simp only [toK, codeOf, Tryd.f33, go_sem, seval, reduceCtorEq]
  have hlr : (List.replicate (turnsN s l) (AV.bool false)).length = turnsN s l := List.length_replicate
  have hb : ((turnsN s l : Nat) : Int) < 100000 := by omega
  have hbn : turnsN s l < 100000 := by omega
  try simp only [go_sem, seval, reduceCtorEq, encW_eq]
  repeat (first | refine WK.blockSeq ?_ | refine WK.blockCond ?_ | refine WK.blockReg ?_ | (refine WK.condT ?_ ?_; (focus (simp only [go_sem, seval, reduceCtorEq, encW_eq]; done))) | (refine WK.condF ?_ ?_; (focus (simp only [go_sem, seval, reduceCtorEq, encW_eq]; done))) | refine WK.seq ?_ | ((first | refine WK.reg ?_ | refine WK.skip ?_ | refine WK.ret ?_ | refine WK.exit ?_); simp only [go_sem, seval, reduceCtorEq, encW_eq]) | ((with_reducible refine And.intro ?_ ?_); omega) | omega)
  refine callK_pureL ((turns_ok' s l hw)) rfl ?_ ?_ ?_ <;> simp only [go_sem, seval, reduceCtorEq, encW_eq]
  try simp only [go_sem, seval, reduceCtorEq, encW_eq]
  repeat (first | refine WK.blockSeq ?_ | refine WK.blockCond ?_ | refine WK.blockReg ?_ | (refine WK.condT ?_ ?_; (focus (simp only [go_sem, seval, reduceCtorEq, encW_eq]; done))) | (refine WK.condF ?_ ?_; (focus (simp only [go_sem, seval, reduceCtorEq, encW_eq]; done))) | refine WK.seq ?_ | ((first | refine WK.reg ?_ | refine WK.skip ?_ | refine WK.ret ?_ | refine WK.exit ?_); simp only [go_sem, seval, reduceCtorEq, encW_eq]) | ((with_reducible refine And.intro ?_ ?_); omega) | omega)
  refine callK_x0 ((notrow_ok' _ 2 (turnsN s l) hbn (by simp only [go_sem, seval, reduceCtorEq, Int.toNat_natCast]) (by simp only [go_sem, seval, reduceCtorEq]))) rfl ?_ ?_ ?_ <;> simp only [go_sem, seval, reduceCtorEq, encW_eq, Int.toNat_natCast]
  have z1 : ((0 : Int) ≤ ((turnsN s l : Nat) : Int)) = True := by simp
  have z2 : (((turnsN s l : Nat) : Int) ≤ ((turnsN s l : Nat) : Int)) = True := by simp
  have z3 : (((turnsN s l : Nat) : Int) * 1 ≤ 281474976710656) = True := by simp; omega
  have z4 : (((turnsN s l : Nat) : Int) ≤ 281474976710656) = True := by simp; omega
  clear hbn hb h2 hT
  have H := And.intro @encW_eq (And.intro @Int.toNat_natCast (And.intro @hlr (And.intro @z1 (And.intro @z2 (And.intro @z3 @z4)))))
  refine autoA ?_
  repeat' (first | (refine WK.draw (ops := #[_, _, _, _, _, _, _]) [dq 0 0, dq 0 0, dq 0 0, dq 0 0, dq 0 0, dm, dq 0 0] mixed (by kernel_rfl) ?_; refine autoA ?_) | (refine WK.draw (ops := #[_, _, _, _, _, _, _, _, _, _, _, _]) [dq 0 0, dq 0 0, dq 0 0, dq 0 0, dm, dq 0 0, dq 1 0, dq 0 0, dq 0 0, dq 0 0, dq 0 0, dm] mixed (by kernel_rfl) ?_; refine autoA ?_) | (refine WK.draw (ops := #[_, _, _, _, _, _, _, _, _, _, _, _, _]) [dq 0 0, dq 0 0, dq 0 0, dq 0 0, dq 0 0, dq 0 0, dq 0 0, dq 0 0, dq 0 0, dq 0 0, dq 0 0, dq 0 0, dm] mixed (by kernel_rfl) ?_; refine autoA ?_))
  try exact trivial
  have hb : turnsN s l < 100000 := by have := hw.few; unfold turnsN; omega
  have fl := fil_len (turnsN s l) (fun i => true)
  have f0 := fil_0 (turnsN s l) (fun i => true)
  have fs := fil_set (turnsN s l) (fun i => true)
  have fn := fil_n (turnsN s l) (fun i => true)
  generalize hF : filL (turnsN s l) (fun i => true) = F at fl f0 fs fn
  have fb : ∀ m i, BelE m (F i) = True := fun m i => by rw [← hF]; exact fil_bel _ _ _ _
  refine WK.rangeX ((turnsN s l)) [2, 3, 5, 6, 7, 8, 9, 39] [] (fun i => []) (fun i => ((((Sto.none.add (.box [.int .i64 0, .int .i64 v, .list false []])).add (.box [.list false (s.map intE), .list false (l.map intE)])).add (.row 1 (List.replicate (turnsN s l) (.bool false)) false)).add (.row 1 (F i) false))) (by omega) (by decide) (by simp only [go_sem, seval, reduceCtorEq, f0, fb]) (by simp only [go_sem, seval, reduceCtorEq, f0, fb]) (by simp only [go_sem, seval, reduceCtorEq, f0, fb, List.take_zero]) (by first | rfl | (simp only [go_sem, seval, reduceCtorEq, f0, fb]; done) | (refine Sto.ext' (by simp only [go_sem, seval, reduceCtorEq, f0, fb]) (fun i => ?_); simp only [go_sem, seval, reduceCtorEq, f0, fb]; repeat' split; all_goals (first | rfl | omega | simp_all))) ?_ ?_
  · intro i hi
    have fl := fl i hi
    have fs := fs i hi
    all_goals clear hb
    all_goals
      have H := And.intro @f0 (And.intro @fb (And.intro @hi (And.intro @fb (And.intro @fl (And.intro @fs @hlr)))))
      refine autoA ?_
      repeat' (first | (refine WK.draw (ops := #[_, _, _, _, _, _, _]) [dq 0 0, dq 0 0, dq 0 0, dq 0 0, dq 0 0, dm, dq 0 0] mixed (by kernel_rfl) ?_; refine autoA ?_) | (refine WK.draw (ops := #[_, _, _, _, _, _, _, _, _, _, _, _]) [dq 0 0, dq 0 0, dq 0 0, dq 0 0, dm, dq 0 0, dq 1 0, dq 0 0, dq 0 0, dq 0 0, dq 0 0, dm] mixed (by kernel_rfl) ?_; refine autoA ?_) | (refine WK.draw (ops := #[_, _, _, _, _, _, _, _, _, _, _, _, _]) [dq 0 0, dq 0 0, dq 0 0, dq 0 0, dq 0 0, dq 0 0, dq 0 0, dq 0 0, dq 0 0, dq 0 0, dq 0 0, dq 0 0, dm] mixed (by kernel_rfl) ?_; refine autoA ?_))
      try exact trivial
      try exact cutA
  · skip
    clear hb
    rw [fn]
    refine WK.freeze 3 (by simp only [go_sem, seval, reduceCtorEq]; rfl) ?_
    have H := And.intro @f0 @fb
    refine autoA ?_
    repeat' (first | (refine WK.draw (ops := #[_, _, _, _, _, _, _]) [dq 0 0, dq 0 0, dq 0 0, dq 0 0, dq 0 0, dm, dq 0 0] mixed (by kernel_rfl) ?_; refine autoA ?_) | (refine WK.draw (ops := #[_, _, _, _, _, _, _, _, _, _, _, _]) [dq 0 0, dq 0 0, dq 0 0, dq 0 0, dm, dq 0 0, dq 1 0, dq 0 0, dq 0 0, dq 0 0, dq 0 0, dm] mixed (by kernel_rfl) ?_; refine autoA ?_) | (refine WK.draw (ops := #[_, _, _, _, _, _, _, _, _, _, _, _, _]) [dq 0 0, dq 0 0, dq 0 0, dq 0 0, dq 0 0, dq 0 0, dq 0 0, dq 0 0, dq 0 0, dq 0 0, dq 0 0, dq 0 0, dm] mixed (by kernel_rfl) ?_; refine autoA ?_))
    try exact trivial
    try exact cut_none _
theorem tbl1 (s l : List Int) (hw : WOK s l) (v : Int) : PCall (C gl) 33 [encF (.mk 1 v []), encW s l] (.list false (tabL (turnsN s l) (svB s l (.mk 1 v [])))) := by
  have h1 := hw.pos
  have h2 := hw.few
  have hT : turnsN s l = s.length + 2 * l.length := turnsN_eq s l
  have eq : svB s l (.mk 1 v []) = fun i => false := funext fun i => (Eq.symm (svB_eq (by show false = true ↔ False; exact ⟨fun h => absurd h (by decide), fun h => h.elim⟩)))
  rw [eq]
  have ct : Ctr (C gl) 32 [encW s l] True (.int .i64 (turnsN s l : Nat)) := ⟨fun _ => turns_ok' s l hw⟩
  have cl : ∀ k : Nat, Ctr (C gl) 44 [encW s l, .int .i64 (k : Int)] (k ≤ turnsN s l) (.list false ((laterN s l k).map natE)) := fun k => ⟨later_ok' s l hw k⟩
  rw [encW_eq] at ct
  simp only [encW_eq] at cl
  refine pcallX (callX_of b33 (by simp [Tryd.ntmps33]) ?_) (by simp only [AllCl, cl_encF, cl_encW, and_true]) (by rw [cl_list]; exact clE_tab _ _)
  refine W.of ?_
  rw [Tryd.ntmps33]
  simp only [toK, codeOf, Tryd.f33, go_sem, seval, reduceCtorEq]
  have hlr : (List.replicate (turnsN s l) (AV.bool false)).length = turnsN s l := List.length_replicate
  have hb : ((turnsN s l : Nat) : Int) < 100000 := by omega
  have hbn : turnsN s l < 100000 := by omega
  try simp only [go_sem, seval, reduceCtorEq, encW_eq]
  repeat (first | refine WK.blockSeq ?_ | refine WK.blockCond ?_ | refine WK.blockReg ?_ | (refine WK.condT ?_ ?_; (focus (simp only [go_sem, seval, reduceCtorEq, encW_eq]; done))) | (refine WK.condF ?_ ?_; (focus (simp only [go_sem, seval, reduceCtorEq, encW_eq]; done))) | refine WK.seq ?_ | ((first | refine WK.reg ?_ | refine WK.skip ?_ | refine WK.ret ?_ | refine WK.exit ?_); simp only [go_sem, seval, reduceCtorEq, encW_eq]) | ((with_reducible refine And.intro ?_ ?_); omega) | omega)
  refine callK_pureL ((turns_ok' s l hw)) rfl ?_ ?_ ?_ <;> simp only [go_sem, seval, reduceCtorEq, encW_eq]
  try simp only [go_sem, seval, reduceCtorEq, encW_eq]
  repeat (first | refine WK.blockSeq ?_ | refine WK.blockCond ?_ | refine WK.blockReg ?_ | (refine WK.condT ?_ ?_; (focus (simp only [go_sem, seval, reduceCtorEq, encW_eq]; done))) | (refine WK.condF ?_ ?_; (focus (simp only [go_sem, seval, reduceCtorEq, encW_eq]; done))) | refine WK.seq ?_ | ((first | refine WK.reg ?_ | refine WK.skip ?_ | refine WK.ret ?_ | refine WK.exit ?_); simp only [go_sem, seval, reduceCtorEq, encW_eq]) | ((with_reducible refine And.intro ?_ ?_); omega) | omega)
  refine callK_x0 ((notrow_ok' _ 2 (turnsN s l) hbn (by simp only [go_sem, seval, reduceCtorEq, Int.toNat_natCast]) (by simp only [go_sem, seval, reduceCtorEq]))) rfl ?_ ?_ ?_ <;> simp only [go_sem, seval, reduceCtorEq, encW_eq, Int.toNat_natCast]
  have z1 : ((0 : Int) ≤ ((turnsN s l : Nat) : Int)) = True := by simp
  have z2 : (((turnsN s l : Nat) : Int) ≤ ((turnsN s l : Nat) : Int)) = True := by simp
  have z3 : (((turnsN s l : Nat) : Int) * 1 ≤ 281474976710656) = True := by simp; omega
  have z4 : (((turnsN s l : Nat) : Int) ≤ 281474976710656) = True := by simp; omega
  clear hbn hb h2 hT
  have H := And.intro @encW_eq (And.intro @Int.toNat_natCast (And.intro @hlr (And.intro @z1 (And.intro @z2 (And.intro @z3 @z4)))))
  refine autoA ?_
  repeat' (first | (refine WK.draw (ops := #[_, _, _, _, _, _, _]) [dq 0 0, dq 0 0, dq 0 0, dq 0 0, dq 0 0, dm, dq 0 0] mixed (by kernel_rfl) ?_; refine autoA ?_) | (refine WK.draw (ops := #[_, _, _, _, _, _, _, _, _, _, _, _]) [dq 0 0, dq 0 0, dq 0 0, dq 0 0, dm, dq 0 0, dq 1 0, dq 0 0, dq 0 0, dq 0 0, dq 0 0, dm] mixed (by kernel_rfl) ?_; refine autoA ?_) | (refine WK.draw (ops := #[_, _, _, _, _, _, _, _, _, _, _, _, _]) [dq 0 0, dq 0 0, dq 0 0, dq 0 0, dq 0 0, dq 0 0, dq 0 0, dq 0 0, dq 0 0, dq 0 0, dq 0 0, dq 0 0, dm] mixed (by kernel_rfl) ?_; refine autoA ?_))
  try exact trivial
  have hb : turnsN s l < 100000 := by have := hw.few; unfold turnsN; omega
  refine rangeA ((turnsN s l)) [2, 3, 5, 6, 7, 8, 9, 39] [] (fun i => []) (fun i => ((((Sto.none.add (.box [.int .i64 1, .int .i64 v, .list false []])).add (.box [.list false (s.map intE), .list false (l.map intE)])).add (.row 1 (List.replicate (turnsN s l) (.bool false)) false)).add (.row 1 (List.replicate (turnsN s l) (.bool false)) false))) ?_ ?_
  · intro i hi
    all_goals clear hb
    all_goals
      have H := And.intro @hi @hlr
      refine autoA ?_
      repeat' (first | (refine WK.draw (ops := #[_, _, _, _, _, _, _]) [dq 0 0, dq 0 0, dq 0 0, dq 0 0, dq 0 0, dm, dq 0 0] mixed (by kernel_rfl) ?_; refine autoA ?_) | (refine WK.draw (ops := #[_, _, _, _, _, _, _, _, _, _, _, _]) [dq 0 0, dq 0 0, dq 0 0, dq 0 0, dm, dq 0 0, dq 1 0, dq 0 0, dq 0 0, dq 0 0, dq 0 0, dm] mixed (by kernel_rfl) ?_; refine autoA ?_) | (refine WK.draw (ops := #[_, _, _, _, _, _, _, _, _, _, _, _, _]) [dq 0 0, dq 0 0, dq 0 0, dq 0 0, dq 0 0, dq 0 0, dq 0 0, dq 0 0, dq 0 0, dq 0 0, dq 0 0, dq 0 0, dm] mixed (by kernel_rfl) ?_; refine autoA ?_))
      try exact trivial
      try exact cutA
  · have fn : List.replicate (turnsN s l) (AV.bool false) = tabL (turnsN s l) fun _ => false := (fil_F _ _ (Nat.le_refl _)).symm.trans (fil_n _ _)
    clear hb
    rw [fn]
    refine WK.freeze 3 (by simp only [go_sem, seval, reduceCtorEq]; rfl) ?_
    have H := trivial
    refine autoA ?_
    repeat' (first | (refine WK.draw (ops := #[_, _, _, _, _, _, _]) [dq 0 0, dq 0 0, dq 0 0, dq 0 0, dq 0 0, dm, dq 0 0] mixed (by kernel_rfl) ?_; refine autoA ?_) | (refine WK.draw (ops := #[_, _, _, _, _, _, _, _, _, _, _, _]) [dq 0 0, dq 0 0, dq 0 0, dq 0 0, dm, dq 0 0, dq 1 0, dq 0 0, dq 0 0, dq 0 0, dq 0 0, dm] mixed (by kernel_rfl) ?_; refine autoA ?_) | (refine WK.draw (ops := #[_, _, _, _, _, _, _, _, _, _, _, _, _]) [dq 0 0, dq 0 0, dq 0 0, dq 0 0, dq 0 0, dq 0 0, dq 0 0, dq 0 0, dq 0 0, dq 0 0, dq 0 0, dq 0 0, dm] mixed (by kernel_rfl) ?_; refine autoA ?_))
    try exact trivial
    try exact cut_none _
theorem tbl2 (s l : List Int) (hw : WOK s l) (v : Int) (hv : 0 ≤ v ∧ v < 6) : PCall (C gl) 33 [encF (.mk 2 v []), encW s l] (.list false (tabL (turnsN s l) (svB s l (.mk 2 v [])))) := by
  have h1 := hw.pos
  have h2 := hw.few
  have hT : turnsN s l = s.length + 2 * l.length := turnsN_eq s l
  have eq : svB s l (.mk 2 v []) = fun i => bitJ (letS s l i) v := funext fun i => (Eq.symm (svB_eq Iff.rfl))
  rw [eq]
  have ct : Ctr (C gl) 32 [encW s l] True (.int .i64 (turnsN s l : Nat)) := ⟨fun _ => turns_ok' s l hw⟩
  have cl : ∀ k : Nat, Ctr (C gl) 44 [encW s l, .int .i64 (k : Int)] (k ≤ turnsN s l) (.list false ((laterN s l k).map natE)) := fun k => ⟨later_ok' s l hw k⟩
  have cb : ∀ k : Nat, Ctr (C gl) 45 [encW s l, .int .i64 (k : Int)] (k < 1000000) (.int .i64 (letS s l k)) := fun k => ⟨letters_ok s l hw k⟩
  rw [encW_eq] at ct
  simp only [encW_eq] at cl cb
  refine pcallX (callX_of b33 (by simp [Tryd.ntmps33]) ?_) (by simp only [AllCl, cl_encF, cl_encW, and_true]) (by rw [cl_list]; exact clE_tab _ _)
  refine W.of ?_
  rw [Tryd.ntmps33]
  simp only [toK, codeOf, Tryd.f33, go_sem, seval, reduceCtorEq]
  have hlr : (List.replicate (turnsN s l) (AV.bool false)).length = turnsN s l := List.length_replicate
  have hb : ((turnsN s l : Nat) : Int) < 100000 := by omega
  have hbn : turnsN s l < 100000 := by omega
  try simp only [go_sem, seval, reduceCtorEq, encW_eq]
  repeat (first | refine WK.blockSeq ?_ | refine WK.blockCond ?_ | refine WK.blockReg ?_ | (refine WK.condT ?_ ?_; (focus (simp only [go_sem, seval, reduceCtorEq, encW_eq]; done))) | (refine WK.condF ?_ ?_; (focus (simp only [go_sem, seval, reduceCtorEq, encW_eq]; done))) | refine WK.seq ?_ | ((first | refine WK.reg ?_ | refine WK.skip ?_ | refine WK.ret ?_ | refine WK.exit ?_); simp only [go_sem, seval, reduceCtorEq, encW_eq]) | ((with_reducible refine And.intro ?_ ?_); omega) | omega)
  refine callK_pureL ((turns_ok' s l hw)) rfl ?_ ?_ ?_ <;> simp only [go_sem, seval, reduceCtorEq, encW_eq]
  try simp only [go_sem, seval, reduceCtorEq, encW_eq]
  repeat (first | refine WK.blockSeq ?_ | refine WK.blockCond ?_ | refine WK.blockReg ?_ | (refine WK.condT ?_ ?_; (focus (simp only [go_sem, seval, reduceCtorEq, encW_eq]; done))) | (refine WK.condF ?_ ?_; (focus (simp only [go_sem, seval, reduceCtorEq, encW_eq]; done))) | refine WK.seq ?_ | ((first | refine WK.reg ?_ | refine WK.skip ?_ | refine WK.ret ?_ | refine WK.exit ?_); simp only [go_sem, seval, reduceCtorEq, encW_eq]) | ((with_reducible refine And.intro ?_ ?_); omega) | omega)
  refine callK_x0 ((notrow_ok' _ 2 (turnsN s l) hbn (by simp only [go_sem, seval, reduceCtorEq, Int.toNat_natCast]) (by simp only [go_sem, seval, reduceCtorEq]))) rfl ?_ ?_ ?_ <;> simp only [go_sem, seval, reduceCtorEq, encW_eq, Int.toNat_natCast]
  have z1 : ((0 : Int) ≤ ((turnsN s l : Nat) : Int)) = True := by simp
  have z2 : (((turnsN s l : Nat) : Int) ≤ ((turnsN s l : Nat) : Int)) = True := by simp
  have z3 : (((turnsN s l : Nat) : Int) * 1 ≤ 281474976710656) = True := by simp; omega
  have z4 : (((turnsN s l : Nat) : Int) ≤ 281474976710656) = True := by simp; omega
  clear hbn hb h2 hT
  have H := And.intro @encW_eq (And.intro @Int.toNat_natCast (And.intro @hlr (And.intro @z1 (And.intro @z2 (And.intro @z3 @z4)))))
  refine autoA ?_
  repeat' (first | (refine WK.draw (ops := #[_, _, _, _, _, _, _]) [dq 0 0, dq 0 0, dq 0 0, dq 0 0, dq 0 0, dm, dq 0 0] mixed (by kernel_rfl) ?_; refine autoA ?_) | (refine WK.draw (ops := #[_, _, _, _, _, _, _, _, _, _, _, _]) [dq 0 0, dq 0 0, dq 0 0, dq 0 0, dm, dq 0 0, dq 1 0, dq 0 0, dq 0 0, dq 0 0, dq 0 0, dm] mixed (by kernel_rfl) ?_; refine autoA ?_) | (refine WK.draw (ops := #[_, _, _, _, _, _, _, _, _, _, _, _, _]) [dq 0 0, dq 0 0, dq 0 0, dq 0 0, dq 0 0, dq 0 0, dq 0 0, dq 0 0, dq 0 0, dq 0 0, dq 0 0, dq 0 0, dm] mixed (by kernel_rfl) ?_; refine autoA ?_))
  try exact trivial
  have hb : turnsN s l < 100000 := by have := hw.few; unfold turnsN; omega
  have fl := fil_len (turnsN s l) (fun i => bitJ (letS s l i) v)
  have f0 := fil_0 (turnsN s l) (fun i => bitJ (letS s l i) v)
  have fs := fil_set (turnsN s l) (fun i => bitJ (letS s l i) v)
  have fn := fil_n (turnsN s l) (fun i => bitJ (letS s l i) v)
  generalize hF : filL (turnsN s l) (fun i => bitJ (letS s l i) v) = F at fl f0 fs fn
  have fb : ∀ m i, BelE m (F i) = True := fun m i => by rw [← hF]; exact fil_bel _ _ _ _
  refine WK.rangeX ((turnsN s l)) [2, 3, 5, 6, 7, 8, 9, 39] [] (fun i => []) (fun i => ((((Sto.none.add (.box [.int .i64 2, .int .i64 v, .list false []])).add (.box [.list false (s.map intE), .list false (l.map intE)])).add (.row 1 (List.replicate (turnsN s l) (.bool false)) false)).add (.row 1 (F i) false))) (by omega) (by decide) (by simp only [go_sem, seval, reduceCtorEq, f0, fb]) (by simp only [go_sem, seval, reduceCtorEq, f0, fb]) (by simp only [go_sem, seval, reduceCtorEq, f0, fb, List.take_zero]) (by first | rfl | (simp only [go_sem, seval, reduceCtorEq, f0, fb]; done) | (refine Sto.ext' (by simp only [go_sem, seval, reduceCtorEq, f0, fb]) (fun i => ?_); simp only [go_sem, seval, reduceCtorEq, f0, fb]; repeat' split; all_goals (first | rfl | omega | simp_all))) ?_ ?_
  · intro i hi
    have fl := fl i hi
    have fs := fs i hi
    have eb : (andI .i64 (shrI .i64 (letS s l i) v) 1 == 1) = bitJ (letS s l i) v := rfl
    have hi6 : i < 1000000 := by omega
    have hv1 := hv.1
    have hv2 := hv.2
    all_goals clear hb
    all_goals
      have H := And.intro @f0 (And.intro @fb (And.intro @hi (And.intro @fb (And.intro @fl (And.intro @fs (And.intro @eb (And.intro @hv1 (And.intro @hv2 (And.intro @hi6 @hlr)))))))))
      refine autoA ?_
      repeat' (first | (refine WK.draw (ops := #[_, _, _, _, _, _, _]) [dq 0 0, dq 0 0, dq 0 0, dq 0 0, dq 0 0, dm, dq 0 0] mixed (by kernel_rfl) ?_; refine autoA ?_) | (refine WK.draw (ops := #[_, _, _, _, _, _, _, _, _, _, _, _]) [dq 0 0, dq 0 0, dq 0 0, dq 0 0, dm, dq 0 0, dq 1 0, dq 0 0, dq 0 0, dq 0 0, dq 0 0, dm] mixed (by kernel_rfl) ?_; refine autoA ?_) | (refine WK.draw (ops := #[_, _, _, _, _, _, _, _, _, _, _, _, _]) [dq 0 0, dq 0 0, dq 0 0, dq 0 0, dq 0 0, dq 0 0, dq 0 0, dq 0 0, dq 0 0, dq 0 0, dq 0 0, dq 0 0, dm] mixed (by kernel_rfl) ?_; refine autoA ?_))
      try exact trivial
      try exact cutA
  · skip
    clear hb
    rw [fn]
    refine WK.freeze 3 (by simp only [go_sem, seval, reduceCtorEq]; rfl) ?_
    have H := And.intro @f0 @fb
    refine autoA ?_
    repeat' (first | (refine WK.draw (ops := #[_, _, _, _, _, _, _]) [dq 0 0, dq 0 0, dq 0 0, dq 0 0, dq 0 0, dm, dq 0 0] mixed (by kernel_rfl) ?_; refine autoA ?_) | (refine WK.draw (ops := #[_, _, _, _, _, _, _, _, _, _, _, _]) [dq 0 0, dq 0 0, dq 0 0, dq 0 0, dm, dq 0 0, dq 1 0, dq 0 0, dq 0 0, dq 0 0, dq 0 0, dm] mixed (by kernel_rfl) ?_; refine autoA ?_) | (refine WK.draw (ops := #[_, _, _, _, _, _, _, _, _, _, _, _, _]) [dq 0 0, dq 0 0, dq 0 0, dq 0 0, dq 0 0, dq 0 0, dq 0 0, dq 0 0, dq 0 0, dq 0 0, dq 0 0, dq 0 0, dm] mixed (by kernel_rfl) ?_; refine autoA ?_))
    try exact trivial
    try exact cut_none _
theorem tbl3 (s l : List Int) (hw : WOK s l) (v : Int) (g : Fm) (ig : Ctr (C gl) 33 [encF g, encW s l] True (.list false (tabL (turnsN s l) (svB s l g)))) : PCall (C gl) 33 [encF (.mk 3 v [g]), encW s l] (.list false (tabL (turnsN s l) (svB s l (.mk 3 v [g])))) := by
  have h1 := hw.pos
  have h2 := hw.few
  have hT : turnsN s l = s.length + 2 * l.length := turnsN_eq s l
  have eq : svB s l (.mk 3 v [g]) = fun i => !svB s l g i := funext fun i => (Eq.symm (svB_eq (by rw [sv_3, Bool.not_eq_true', ← Bool.not_eq_true, svB_iff])))
  rw [eq]
  have ct : Ctr (C gl) 32 [encW s l] True (.int .i64 (turnsN s l : Nat)) := ⟨fun _ => turns_ok' s l hw⟩
  have cl : ∀ k : Nat, Ctr (C gl) 44 [encW s l, .int .i64 (k : Int)] (k ≤ turnsN s l) (.list false ((laterN s l k).map natE)) := fun k => ⟨later_ok' s l hw k⟩
  rw [encW_eq] at ct ig
  simp only [encW_eq] at cl
  refine pcallX (callX_of b33 (by simp [Tryd.ntmps33]) ?_) (by simp only [AllCl, cl_encF, cl_encW, and_true]) (by rw [cl_list]; exact clE_tab _ _)
  refine W.of ?_
  rw [Tryd.ntmps33]
  simp only [toK, codeOf, Tryd.f33, go_sem, seval, reduceCtorEq]
  have hlr : (List.replicate (turnsN s l) (AV.bool false)).length = turnsN s l := List.length_replicate
  have hb : ((turnsN s l : Nat) : Int) < 100000 := by omega
  have hbn : turnsN s l < 100000 := by omega
  try simp only [go_sem, seval, reduceCtorEq, encW_eq]
  repeat (first | refine WK.blockSeq ?_ | refine WK.blockCond ?_ | refine WK.blockReg ?_ | (refine WK.condT ?_ ?_; (focus (simp only [go_sem, seval, reduceCtorEq, encW_eq]; done))) | (refine WK.condF ?_ ?_; (focus (simp only [go_sem, seval, reduceCtorEq, encW_eq]; done))) | refine WK.seq ?_ | ((first | refine WK.reg ?_ | refine WK.skip ?_ | refine WK.ret ?_ | refine WK.exit ?_); simp only [go_sem, seval, reduceCtorEq, encW_eq]) | ((with_reducible refine And.intro ?_ ?_); omega) | omega)
  refine callK_pureL ((turns_ok' s l hw)) rfl ?_ ?_ ?_ <;> simp only [go_sem, seval, reduceCtorEq, encW_eq]
  try simp only [go_sem, seval, reduceCtorEq, encW_eq]
  repeat (first | refine WK.blockSeq ?_ | refine WK.blockCond ?_ | refine WK.blockReg ?_ | (refine WK.condT ?_ ?_; (focus (simp only [go_sem, seval, reduceCtorEq, encW_eq]; done))) | (refine WK.condF ?_ ?_; (focus (simp only [go_sem, seval, reduceCtorEq, encW_eq]; done))) | refine WK.seq ?_ | ((first | refine WK.reg ?_ | refine WK.skip ?_ | refine WK.ret ?_ | refine WK.exit ?_); simp only [go_sem, seval, reduceCtorEq, encW_eq]) | ((with_reducible refine And.intro ?_ ?_); omega) | omega)
  refine callK_x0 ((notrow_ok' _ 2 (turnsN s l) hbn (by simp only [go_sem, seval, reduceCtorEq, Int.toNat_natCast]) (by simp only [go_sem, seval, reduceCtorEq]))) rfl ?_ ?_ ?_ <;> simp only [go_sem, seval, reduceCtorEq, encW_eq, Int.toNat_natCast]
  have z1 : ((0 : Int) ≤ ((turnsN s l : Nat) : Int)) = True := by simp
  have z2 : (((turnsN s l : Nat) : Int) ≤ ((turnsN s l : Nat) : Int)) = True := by simp
  have z3 : (((turnsN s l : Nat) : Int) * 1 ≤ 281474976710656) = True := by simp; omega
  have z4 : (((turnsN s l : Nat) : Int) ≤ 281474976710656) = True := by simp; omega
  clear hbn hb h2 hT
  have H := And.intro @encW_eq (And.intro @Int.toNat_natCast (And.intro @hlr (And.intro @z1 (And.intro @z2 (And.intro @z3 @z4)))))
  refine autoA ?_
  repeat' (first | (refine WK.draw (ops := #[_, _, _, _, _, _, _]) [dq 0 0, dq 0 0, dq 0 0, dq 0 0, dq 0 0, dm, dq 0 0] mixed (by kernel_rfl) ?_; refine autoA ?_) | (refine WK.draw (ops := #[_, _, _, _, _, _, _, _, _, _, _, _]) [dq 0 0, dq 0 0, dq 0 0, dq 0 0, dm, dq 0 0, dq 1 0, dq 0 0, dq 0 0, dq 0 0, dq 0 0, dm] mixed (by kernel_rfl) ?_; refine autoA ?_) | (refine WK.draw (ops := #[_, _, _, _, _, _, _, _, _, _, _, _, _]) [dq 0 0, dq 0 0, dq 0 0, dq 0 0, dq 0 0, dq 0 0, dq 0 0, dq 0 0, dq 0 0, dq 0 0, dq 0 0, dq 0 0, dm] mixed (by kernel_rfl) ?_; refine autoA ?_))
  try exact trivial
  have hb : turnsN s l < 100000 := by have := hw.few; unfold turnsN; omega
  have fl := fil_len (turnsN s l) (fun i => !svB s l g i)
  have f0 := fil_0 (turnsN s l) (fun i => !svB s l g i)
  have fs := fil_set (turnsN s l) (fun i => !svB s l g i)
  have fn := fil_n (turnsN s l) (fun i => !svB s l g i)
  generalize hF : filL (turnsN s l) (fun i => !svB s l g i) = F at fl f0 fs fn
  have fb : ∀ m i, BelE m (F i) = True := fun m i => by rw [← hF]; exact fil_bel _ _ _ _
  refine WK.rangeX ((turnsN s l)) [2, 3, 5, 6, 7, 8, 9, 39] [] (fun i => []) (fun i => ((((Sto.none.add (.box [.int .i64 3, .int .i64 v, .list false (encFs [g])])).add (.box [.list false (s.map intE), .list false (l.map intE)])).add (.row 1 (List.replicate (turnsN s l) (.bool false)) false)).add (.row 1 (F i) false))) (by omega) (by decide) (by simp only [go_sem, seval, reduceCtorEq, f0, fb]) (by simp only [go_sem, seval, reduceCtorEq, f0, fb]) (by simp only [go_sem, seval, reduceCtorEq, f0, fb, List.take_zero]) (by first | rfl | (simp only [go_sem, seval, reduceCtorEq, f0, fb]; done) | (refine Sto.ext' (by simp only [go_sem, seval, reduceCtorEq, f0, fb]) (fun i => ?_); simp only [go_sem, seval, reduceCtorEq, f0, fb]; repeat' split; all_goals (first | rfl | omega | simp_all))) ?_ ?_
  · intro i hi
    have fl := fl i hi
    have fs := fs i hi
    have mg := tab_get (turnsN s l) (svB s l g) i hi
    all_goals clear hb
    all_goals
      have H := And.intro @f0 (And.intro @fb (And.intro @hi (And.intro @fb (And.intro @fl (And.intro @fs (And.intro @mg @hlr))))))
      refine autoA ?_
      repeat' (first | (refine WK.draw (ops := #[_, _, _, _, _, _, _]) [dq 0 0, dq 0 0, dq 0 0, dq 0 0, dq 0 0, dm, dq 0 0] mixed (by kernel_rfl) ?_; refine autoA ?_) | (refine WK.draw (ops := #[_, _, _, _, _, _, _, _, _, _, _, _]) [dq 0 0, dq 0 0, dq 0 0, dq 0 0, dm, dq 0 0, dq 1 0, dq 0 0, dq 0 0, dq 0 0, dq 0 0, dm] mixed (by kernel_rfl) ?_; refine autoA ?_) | (refine WK.draw (ops := #[_, _, _, _, _, _, _, _, _, _, _, _, _]) [dq 0 0, dq 0 0, dq 0 0, dq 0 0, dq 0 0, dq 0 0, dq 0 0, dq 0 0, dq 0 0, dq 0 0, dq 0 0, dq 0 0, dm] mixed (by kernel_rfl) ?_; refine autoA ?_))
      try exact trivial
      try exact cutA
  · skip
    clear hb
    rw [fn]
    refine WK.freeze 3 (by simp only [go_sem, seval, reduceCtorEq]; rfl) ?_
    have H := And.intro @f0 @fb
    refine autoA ?_
    repeat' (first | (refine WK.draw (ops := #[_, _, _, _, _, _, _]) [dq 0 0, dq 0 0, dq 0 0, dq 0 0, dq 0 0, dm, dq 0 0] mixed (by kernel_rfl) ?_; refine autoA ?_) | (refine WK.draw (ops := #[_, _, _, _, _, _, _, _, _, _, _, _]) [dq 0 0, dq 0 0, dq 0 0, dq 0 0, dm, dq 0 0, dq 1 0, dq 0 0, dq 0 0, dq 0 0, dq 0 0, dm] mixed (by kernel_rfl) ?_; refine autoA ?_) | (refine WK.draw (ops := #[_, _, _, _, _, _, _, _, _, _, _, _, _]) [dq 0 0, dq 0 0, dq 0 0, dq 0 0, dq 0 0, dq 0 0, dq 0 0, dq 0 0, dq 0 0, dq 0 0, dq 0 0, dq 0 0, dm] mixed (by kernel_rfl) ?_; refine autoA ?_))
    try exact trivial
    try exact cut_none _
theorem tbl4 (s l : List Int) (hw : WOK s l) (v : Int) (g h : Fm) (ig : Ctr (C gl) 33 [encF g, encW s l] True (.list false (tabL (turnsN s l) (svB s l g)))) (ih : Ctr (C gl) 33 [encF h, encW s l] True (.list false (tabL (turnsN s l) (svB s l h)))) : PCall (C gl) 33 [encF (.mk 4 v [g, h]), encW s l] (.list false (tabL (turnsN s l) (svB s l (.mk 4 v [g, h])))) := by
  have h1 := hw.pos
  have h2 := hw.few
  have hT : turnsN s l = s.length + 2 * l.length := turnsN_eq s l
  have eq : svB s l (.mk 4 v [g, h]) = fun i => svB s l g i && svB s l h i := funext fun i => (Eq.symm (svB_eq (by rw [sv_4, Bool.and_eq_true, svB_iff, svB_iff])))
  rw [eq]
  have ct : Ctr (C gl) 32 [encW s l] True (.int .i64 (turnsN s l : Nat)) := ⟨fun _ => turns_ok' s l hw⟩
  have cl : ∀ k : Nat, Ctr (C gl) 44 [encW s l, .int .i64 (k : Int)] (k ≤ turnsN s l) (.list false ((laterN s l k).map natE)) := fun k => ⟨later_ok' s l hw k⟩
  rw [encW_eq] at ct ig ih
  simp only [encW_eq] at cl
  refine pcallX (callX_of b33 (by simp [Tryd.ntmps33]) ?_) (by simp only [AllCl, cl_encF, cl_encW, and_true]) (by rw [cl_list]; exact clE_tab _ _)
  refine W.of ?_
  rw [Tryd.ntmps33]
  simp only [toK, codeOf, Tryd.f33, go_sem, seval, reduceCtorEq]
  have hlr : (List.replicate (turnsN s l) (AV.bool false)).length = turnsN s l := List.length_replicate
  have hb : ((turnsN s l : Nat) : Int) < 100000 := by omega
  have hbn : turnsN s l < 100000 := by omega
  try simp only [go_sem, seval, reduceCtorEq, encW_eq]
  repeat (first | refine WK.blockSeq ?_ | refine WK.blockCond ?_ | refine WK.blockReg ?_ | (refine WK.condT ?_ ?_; (focus (simp only [go_sem, seval, reduceCtorEq, encW_eq]; done))) | (refine WK.condF ?_ ?_; (focus (simp only [go_sem, seval, reduceCtorEq, encW_eq]; done))) | refine WK.seq ?_ | ((first | refine WK.reg ?_ | refine WK.skip ?_ | refine WK.ret ?_ | refine WK.exit ?_); simp only [go_sem, seval, reduceCtorEq, encW_eq]) | ((with_reducible refine And.intro ?_ ?_); omega) | omega)
  refine callK_pureL ((turns_ok' s l hw)) rfl ?_ ?_ ?_ <;> simp only [go_sem, seval, reduceCtorEq, encW_eq]
  try simp only [go_sem, seval, reduceCtorEq, encW_eq]
  repeat (first | refine WK.blockSeq ?_ | refine WK.blockCond ?_ | refine WK.blockReg ?_ | (refine WK.condT ?_ ?_; (focus (simp only [go_sem, seval, reduceCtorEq, encW_eq]; done))) | (refine WK.condF ?_ ?_; (focus (simp only [go_sem, seval, reduceCtorEq, encW_eq]; done))) | refine WK.seq ?_ | ((first | refine WK.reg ?_ | refine WK.skip ?_ | refine WK.ret ?_ | refine WK.exit ?_); simp only [go_sem, seval, reduceCtorEq, encW_eq]) | ((with_reducible refine And.intro ?_ ?_); omega) | omega)
  refine callK_x0 ((notrow_ok' _ 2 (turnsN s l) hbn (by simp only [go_sem, seval, reduceCtorEq, Int.toNat_natCast]) (by simp only [go_sem, seval, reduceCtorEq]))) rfl ?_ ?_ ?_ <;> simp only [go_sem, seval, reduceCtorEq, encW_eq, Int.toNat_natCast]
  have z1 : ((0 : Int) ≤ ((turnsN s l : Nat) : Int)) = True := by simp
  have z2 : (((turnsN s l : Nat) : Int) ≤ ((turnsN s l : Nat) : Int)) = True := by simp
  have z3 : (((turnsN s l : Nat) : Int) * 1 ≤ 281474976710656) = True := by simp; omega
  have z4 : (((turnsN s l : Nat) : Int) ≤ 281474976710656) = True := by simp; omega
  clear hbn hb h2 hT
  have H := And.intro @encW_eq (And.intro @Int.toNat_natCast (And.intro @hlr (And.intro @z1 (And.intro @z2 (And.intro @z3 @z4)))))
  refine autoA ?_
  repeat' (first | (refine WK.draw (ops := #[_, _, _, _, _, _, _]) [dq 0 0, dq 0 0, dq 0 0, dq 0 0, dq 0 0, dm, dq 0 0] mixed (by kernel_rfl) ?_; refine autoA ?_) | (refine WK.draw (ops := #[_, _, _, _, _, _, _, _, _, _, _, _]) [dq 0 0, dq 0 0, dq 0 0, dq 0 0, dm, dq 0 0, dq 1 0, dq 0 0, dq 0 0, dq 0 0, dq 0 0, dm] mixed (by kernel_rfl) ?_; refine autoA ?_) | (refine WK.draw (ops := #[_, _, _, _, _, _, _, _, _, _, _, _, _]) [dq 0 0, dq 0 0, dq 0 0, dq 0 0, dq 0 0, dq 0 0, dq 0 0, dq 0 0, dq 0 0, dq 0 0, dq 0 0, dq 0 0, dm] mixed (by kernel_rfl) ?_; refine autoA ?_))
  try exact trivial
  have hb : turnsN s l < 100000 := by have := hw.few; unfold turnsN; omega
  have fl := fil_len (turnsN s l) (fun i => svB s l g i && svB s l h i)
  have f0 := fil_0 (turnsN s l) (fun i => svB s l g i && svB s l h i)
  have fs := fil_set (turnsN s l) (fun i => svB s l g i && svB s l h i)
  have fn := fil_n (turnsN s l) (fun i => svB s l g i && svB s l h i)
  generalize hF : filL (turnsN s l) (fun i => svB s l g i && svB s l h i) = F at fl f0 fs fn
  have fb : ∀ m i, BelE m (F i) = True := fun m i => by rw [← hF]; exact fil_bel _ _ _ _
  refine WK.rangeX ((turnsN s l)) [2, 3, 5, 6, 7, 8, 9, 39] [] (fun i => []) (fun i => ((((Sto.none.add (.box [.int .i64 4, .int .i64 v, .list false (encFs [g, h])])).add (.box [.list false (s.map intE), .list false (l.map intE)])).add (.row 1 (List.replicate (turnsN s l) (.bool false)) false)).add (.row 1 (F i) false))) (by omega) (by decide) (by simp only [go_sem, seval, reduceCtorEq, f0, fb]) (by simp only [go_sem, seval, reduceCtorEq, f0, fb]) (by simp only [go_sem, seval, reduceCtorEq, f0, fb, List.take_zero]) (by first | rfl | (simp only [go_sem, seval, reduceCtorEq, f0, fb]; done) | (refine Sto.ext' (by simp only [go_sem, seval, reduceCtorEq, f0, fb]) (fun i => ?_); simp only [go_sem, seval, reduceCtorEq, f0, fb]; repeat' split; all_goals (first | rfl | omega | simp_all))) ?_ ?_
  · intro i hi
    have fl := fl i hi
    have fs := fs i hi
    have mg := tab_get (turnsN s l) (svB s l g) i hi
    have mh := tab_get (turnsN s l) (svB s l h) i hi
    cases ex : svB s l g i <;> cases ey : svB s l h i
    all_goals rw [ex] at mg; rw [ey] at mh; simp only [ex, ey, Bool.and_self, Bool.and_true, Bool.and_false, Bool.true_and, Bool.false_and, Bool.or_self, Bool.or_true, Bool.or_false, Bool.true_or, Bool.false_or, Bool.not_true, Bool.not_false, b_ff, b_ft, b_tf, b_tt] at fs
    all_goals clear hb
    all_goals
      have H := And.intro @f0 (And.intro @fb (And.intro @hi (And.intro @fb (And.intro @fl (And.intro @fs (And.intro @mg (And.intro @mh (And.intro @ex (And.intro @ey @hlr)))))))))
      refine autoA ?_
      repeat' (first | (refine WK.draw (ops := #[_, _, _, _, _, _, _]) [dq 0 0, dq 0 0, dq 0 0, dq 0 0, dq 0 0, dm, dq 0 0] mixed (by kernel_rfl) ?_; refine autoA ?_) | (refine WK.draw (ops := #[_, _, _, _, _, _, _, _, _, _, _, _]) [dq 0 0, dq 0 0, dq 0 0, dq 0 0, dm, dq 0 0, dq 1 0, dq 0 0, dq 0 0, dq 0 0, dq 0 0, dm] mixed (by kernel_rfl) ?_; refine autoA ?_) | (refine WK.draw (ops := #[_, _, _, _, _, _, _, _, _, _, _, _, _]) [dq 0 0, dq 0 0, dq 0 0, dq 0 0, dq 0 0, dq 0 0, dq 0 0, dq 0 0, dq 0 0, dq 0 0, dq 0 0, dq 0 0, dm] mixed (by kernel_rfl) ?_; refine autoA ?_))
      try exact trivial
      try exact cutA
  · skip
    clear hb
    rw [fn]
    refine WK.freeze 3 (by simp only [go_sem, seval, reduceCtorEq]; rfl) ?_
    have H := And.intro @f0 @fb
    refine autoA ?_
    repeat' (first | (refine WK.draw (ops := #[_, _, _, _, _, _, _]) [dq 0 0, dq 0 0, dq 0 0, dq 0 0, dq 0 0, dm, dq 0 0] mixed (by kernel_rfl) ?_; refine autoA ?_) | (refine WK.draw (ops := #[_, _, _, _, _, _, _, _, _, _, _, _]) [dq 0 0, dq 0 0, dq 0 0, dq 0 0, dm, dq 0 0, dq 1 0, dq 0 0, dq 0 0, dq 0 0, dq 0 0, dm] mixed (by kernel_rfl) ?_; refine autoA ?_) | (refine WK.draw (ops := #[_, _, _, _, _, _, _, _, _, _, _, _, _]) [dq 0 0, dq 0 0, dq 0 0, dq 0 0, dq 0 0, dq 0 0, dq 0 0, dq 0 0, dq 0 0, dq 0 0, dq 0 0, dq 0 0, dm] mixed (by kernel_rfl) ?_; refine autoA ?_))
    try exact trivial
    try exact cut_none _
theorem tbl5 (s l : List Int) (hw : WOK s l) (v : Int) (g h : Fm) (ig : Ctr (C gl) 33 [encF g, encW s l] True (.list false (tabL (turnsN s l) (svB s l g)))) (ih : Ctr (C gl) 33 [encF h, encW s l] True (.list false (tabL (turnsN s l) (svB s l h)))) : PCall (C gl) 33 [encF (.mk 5 v [g, h]), encW s l] (.list false (tabL (turnsN s l) (svB s l (.mk 5 v [g, h])))) := by
  have h1 := hw.pos
  have h2 := hw.few
  have hT : turnsN s l = s.length + 2 * l.length := turnsN_eq s l
  have eq : svB s l (.mk 5 v [g, h]) = fun i => svB s l g i || svB s l h i := funext fun i => (Eq.symm (svB_eq (by rw [sv_5, Bool.or_eq_true, svB_iff, svB_iff])))
  rw [eq]
  have ct : Ctr (C gl) 32 [encW s l] True (.int .i64 (turnsN s l : Nat)) := ⟨fun _ => turns_ok' s l hw⟩
  have cl : ∀ k : Nat, Ctr (C gl) 44 [encW s l, .int .i64 (k : Int)] (k ≤ turnsN s l) (.list false ((laterN s l k).map natE)) := fun k => ⟨later_ok' s l hw k⟩
  rw [encW_eq] at ct ig ih
  simp only [encW_eq] at cl
  refine pcallX (callX_of b33 (by simp [Tryd.ntmps33]) ?_) (by simp only [AllCl, cl_encF, cl_encW, and_true]) (by rw [cl_list]; exact clE_tab _ _)
  refine W.of ?_
  rw [Tryd.ntmps33]
  simp only [toK, codeOf, Tryd.f33, go_sem, seval, reduceCtorEq]
  have hlr : (List.replicate (turnsN s l) (AV.bool false)).length = turnsN s l := List.length_replicate
  have hb : ((turnsN s l : Nat) : Int) < 100000 := by omega
  have hbn : turnsN s l < 100000 := by omega
  try simp only [go_sem, seval, reduceCtorEq, encW_eq]
  repeat (first | refine WK.blockSeq ?_ | refine WK.blockCond ?_ | refine WK.blockReg ?_ | (refine WK.condT ?_ ?_; (focus (simp only [go_sem, seval, reduceCtorEq, encW_eq]; done))) | (refine WK.condF ?_ ?_; (focus (simp only [go_sem, seval, reduceCtorEq, encW_eq]; done))) | refine WK.seq ?_ | ((first | refine WK.reg ?_ | refine WK.skip ?_ | refine WK.ret ?_ | refine WK.exit ?_); simp only [go_sem, seval, reduceCtorEq, encW_eq]) | ((with_reducible refine And.intro ?_ ?_); omega) | omega)
  refine callK_pureL ((turns_ok' s l hw)) rfl ?_ ?_ ?_ <;> simp only [go_sem, seval, reduceCtorEq, encW_eq]
  try simp only [go_sem, seval, reduceCtorEq, encW_eq]
  repeat (first | refine WK.blockSeq ?_ | refine WK.blockCond ?_ | refine WK.blockReg ?_ | (refine WK.condT ?_ ?_; (focus (simp only [go_sem, seval, reduceCtorEq, encW_eq]; done))) | (refine WK.condF ?_ ?_; (focus (simp only [go_sem, seval, reduceCtorEq, encW_eq]; done))) | refine WK.seq ?_ | ((first | refine WK.reg ?_ | refine WK.skip ?_ | refine WK.ret ?_ | refine WK.exit ?_); simp only [go_sem, seval, reduceCtorEq, encW_eq]) | ((with_reducible refine And.intro ?_ ?_); omega) | omega)
  refine callK_x0 ((notrow_ok' _ 2 (turnsN s l) hbn (by simp only [go_sem, seval, reduceCtorEq, Int.toNat_natCast]) (by simp only [go_sem, seval, reduceCtorEq]))) rfl ?_ ?_ ?_ <;> simp only [go_sem, seval, reduceCtorEq, encW_eq, Int.toNat_natCast]
  have z1 : ((0 : Int) ≤ ((turnsN s l : Nat) : Int)) = True := by simp
  have z2 : (((turnsN s l : Nat) : Int) ≤ ((turnsN s l : Nat) : Int)) = True := by simp
  have z3 : (((turnsN s l : Nat) : Int) * 1 ≤ 281474976710656) = True := by simp; omega
  have z4 : (((turnsN s l : Nat) : Int) ≤ 281474976710656) = True := by simp; omega
  clear hbn hb h2 hT
  have H := And.intro @encW_eq (And.intro @Int.toNat_natCast (And.intro @hlr (And.intro @z1 (And.intro @z2 (And.intro @z3 @z4)))))
  refine autoA ?_
  repeat' (first | (refine WK.draw (ops := #[_, _, _, _, _, _, _]) [dq 0 0, dq 0 0, dq 0 0, dq 0 0, dq 0 0, dm, dq 0 0] mixed (by kernel_rfl) ?_; refine autoA ?_) | (refine WK.draw (ops := #[_, _, _, _, _, _, _, _, _, _, _, _]) [dq 0 0, dq 0 0, dq 0 0, dq 0 0, dm, dq 0 0, dq 1 0, dq 0 0, dq 0 0, dq 0 0, dq 0 0, dm] mixed (by kernel_rfl) ?_; refine autoA ?_) | (refine WK.draw (ops := #[_, _, _, _, _, _, _, _, _, _, _, _, _]) [dq 0 0, dq 0 0, dq 0 0, dq 0 0, dq 0 0, dq 0 0, dq 0 0, dq 0 0, dq 0 0, dq 0 0, dq 0 0, dq 0 0, dm] mixed (by kernel_rfl) ?_; refine autoA ?_))
  try exact trivial
  have hb : turnsN s l < 100000 := by have := hw.few; unfold turnsN; omega
  have fl := fil_len (turnsN s l) (fun i => svB s l g i || svB s l h i)
  have f0 := fil_0 (turnsN s l) (fun i => svB s l g i || svB s l h i)
  have fs := fil_set (turnsN s l) (fun i => svB s l g i || svB s l h i)
  have fn := fil_n (turnsN s l) (fun i => svB s l g i || svB s l h i)
  generalize hF : filL (turnsN s l) (fun i => svB s l g i || svB s l h i) = F at fl f0 fs fn
  have fb : ∀ m i, BelE m (F i) = True := fun m i => by rw [← hF]; exact fil_bel _ _ _ _
  refine WK.rangeX ((turnsN s l)) [2, 3, 5, 6, 7, 8, 9, 39] [] (fun i => []) (fun i => ((((Sto.none.add (.box [.int .i64 5, .int .i64 v, .list false (encFs [g, h])])).add (.box [.list false (s.map intE), .list false (l.map intE)])).add (.row 1 (List.replicate (turnsN s l) (.bool false)) false)).add (.row 1 (F i) false))) (by omega) (by decide) (by simp only [go_sem, seval, reduceCtorEq, f0, fb]) (by simp only [go_sem, seval, reduceCtorEq, f0, fb]) (by simp only [go_sem, seval, reduceCtorEq, f0, fb, List.take_zero]) (by first | rfl | (simp only [go_sem, seval, reduceCtorEq, f0, fb]; done) | (refine Sto.ext' (by simp only [go_sem, seval, reduceCtorEq, f0, fb]) (fun i => ?_); simp only [go_sem, seval, reduceCtorEq, f0, fb]; repeat' split; all_goals (first | rfl | omega | simp_all))) ?_ ?_
  · intro i hi
    have fl := fl i hi
    have fs := fs i hi
    have mg := tab_get (turnsN s l) (svB s l g) i hi
    have mh := tab_get (turnsN s l) (svB s l h) i hi
    cases ex : svB s l g i <;> cases ey : svB s l h i
    all_goals rw [ex] at mg; rw [ey] at mh; simp only [ex, ey, Bool.and_self, Bool.and_true, Bool.and_false, Bool.true_and, Bool.false_and, Bool.or_self, Bool.or_true, Bool.or_false, Bool.true_or, Bool.false_or, Bool.not_true, Bool.not_false, b_ff, b_ft, b_tf, b_tt] at fs
    all_goals clear hb
    all_goals
      have H := And.intro @f0 (And.intro @fb (And.intro @hi (And.intro @fb (And.intro @fl (And.intro @fs (And.intro @mg (And.intro @mh (And.intro @ex (And.intro @ey @hlr)))))))))
      refine autoA ?_
      repeat' (first | (refine WK.draw (ops := #[_, _, _, _, _, _, _]) [dq 0 0, dq 0 0, dq 0 0, dq 0 0, dq 0 0, dm, dq 0 0] mixed (by kernel_rfl) ?_; refine autoA ?_) | (refine WK.draw (ops := #[_, _, _, _, _, _, _, _, _, _, _, _]) [dq 0 0, dq 0 0, dq 0 0, dq 0 0, dm, dq 0 0, dq 1 0, dq 0 0, dq 0 0, dq 0 0, dq 0 0, dm] mixed (by kernel_rfl) ?_; refine autoA ?_) | (refine WK.draw (ops := #[_, _, _, _, _, _, _, _, _, _, _, _, _]) [dq 0 0, dq 0 0, dq 0 0, dq 0 0, dq 0 0, dq 0 0, dq 0 0, dq 0 0, dq 0 0, dq 0 0, dq 0 0, dq 0 0, dm] mixed (by kernel_rfl) ?_; refine autoA ?_))
      try exact trivial
      try exact cutA
  · skip
    clear hb
    rw [fn]
    refine WK.freeze 3 (by simp only [go_sem, seval, reduceCtorEq]; rfl) ?_
    have H := And.intro @f0 @fb
    refine autoA ?_
    repeat' (first | (refine WK.draw (ops := #[_, _, _, _, _, _, _]) [dq 0 0, dq 0 0, dq 0 0, dq 0 0, dq 0 0, dm, dq 0 0] mixed (by kernel_rfl) ?_; refine autoA ?_) | (refine WK.draw (ops := #[_, _, _, _, _, _, _, _, _, _, _, _]) [dq 0 0, dq 0 0, dq 0 0, dq 0 0, dm, dq 0 0, dq 1 0, dq 0 0, dq 0 0, dq 0 0, dq 0 0, dm] mixed (by kernel_rfl) ?_; refine autoA ?_) | (refine WK.draw (ops := #[_, _, _, _, _, _, _, _, _, _, _, _, _]) [dq 0 0, dq 0 0, dq 0 0, dq 0 0, dq 0 0, dq 0 0, dq 0 0, dq 0 0, dq 0 0, dq 0 0, dq 0 0, dq 0 0, dm] mixed (by kernel_rfl) ?_; refine autoA ?_))
    try exact trivial
    try exact cut_none _
theorem tbl6 (s l : List Int) (hw : WOK s l) (v : Int) (g h : Fm) (ig : Ctr (C gl) 33 [encF g, encW s l] True (.list false (tabL (turnsN s l) (svB s l g)))) (ih : Ctr (C gl) 33 [encF h, encW s l] True (.list false (tabL (turnsN s l) (svB s l h)))) : PCall (C gl) 33 [encF (.mk 6 v [g, h]), encW s l] (.list false (tabL (turnsN s l) (svB s l (.mk 6 v [g, h])))) := by
  have h1 := hw.pos
  have h2 := hw.few
  have hT : turnsN s l = s.length + 2 * l.length := turnsN_eq s l
  have eq : svB s l (.mk 6 v [g, h]) = fun i => !svB s l g i || svB s l h i := funext fun i => (Eq.symm (svB_eq (by rw [sv_6, Bool.or_eq_true, Bool.not_eq_true', ← Bool.not_eq_true, svB_iff, svB_iff]; exact ⟨fun h x => h.elim (fun h => (h x).elim) id, fun h => Classical.byCases (fun x => .inr (h x)) .inl⟩)))
  rw [eq]
  have ct : Ctr (C gl) 32 [encW s l] True (.int .i64 (turnsN s l : Nat)) := ⟨fun _ => turns_ok' s l hw⟩
  have cl : ∀ k : Nat, Ctr (C gl) 44 [encW s l, .int .i64 (k : Int)] (k ≤ turnsN s l) (.list false ((laterN s l k).map natE)) := fun k => ⟨later_ok' s l hw k⟩
  rw [encW_eq] at ct ig ih
  simp only [encW_eq] at cl
  refine pcallX (callX_of b33 (by simp [Tryd.ntmps33]) ?_) (by simp only [AllCl, cl_encF, cl_encW, and_true]) (by rw [cl_list]; exact clE_tab _ _)
  refine W.of ?_
  rw [Tryd.ntmps33]
  simp only [toK, codeOf, Tryd.f33, go_sem, seval, reduceCtorEq]
  have hlr : (List.replicate (turnsN s l) (AV.bool false)).length = turnsN s l := List.length_replicate
  have hb : ((turnsN s l : Nat) : Int) < 100000 := by omega
  have hbn : turnsN s l < 100000 := by omega
  try simp only [go_sem, seval, reduceCtorEq, encW_eq]
  repeat (first | refine WK.blockSeq ?_ | refine WK.blockCond ?_ | refine WK.blockReg ?_ | (refine WK.condT ?_ ?_; (focus (simp only [go_sem, seval, reduceCtorEq, encW_eq]; done))) | (refine WK.condF ?_ ?_; (focus (simp only [go_sem, seval, reduceCtorEq, encW_eq]; done))) | refine WK.seq ?_ | ((first | refine WK.reg ?_ | refine WK.skip ?_ | refine WK.ret ?_ | refine WK.exit ?_); simp only [go_sem, seval, reduceCtorEq, encW_eq]) | ((with_reducible refine And.intro ?_ ?_); omega) | omega)
  refine callK_pureL ((turns_ok' s l hw)) rfl ?_ ?_ ?_ <;> simp only [go_sem, seval, reduceCtorEq, encW_eq]
  try simp only [go_sem, seval, reduceCtorEq, encW_eq]
  repeat (first | refine WK.blockSeq ?_ | refine WK.blockCond ?_ | refine WK.blockReg ?_ | (refine WK.condT ?_ ?_; (focus (simp only [go_sem, seval, reduceCtorEq, encW_eq]; done))) | (refine WK.condF ?_ ?_; (focus (simp only [go_sem, seval, reduceCtorEq, encW_eq]; done))) | refine WK.seq ?_ | ((first | refine WK.reg ?_ | refine WK.skip ?_ | refine WK.ret ?_ | refine WK.exit ?_); simp only [go_sem, seval, reduceCtorEq, encW_eq]) | ((with_reducible refine And.intro ?_ ?_); omega) | omega)
  refine callK_x0 ((notrow_ok' _ 2 (turnsN s l) hbn (by simp only [go_sem, seval, reduceCtorEq, Int.toNat_natCast]) (by simp only [go_sem, seval, reduceCtorEq]))) rfl ?_ ?_ ?_ <;> simp only [go_sem, seval, reduceCtorEq, encW_eq, Int.toNat_natCast]
  have z1 : ((0 : Int) ≤ ((turnsN s l : Nat) : Int)) = True := by simp
  have z2 : (((turnsN s l : Nat) : Int) ≤ ((turnsN s l : Nat) : Int)) = True := by simp
  have z3 : (((turnsN s l : Nat) : Int) * 1 ≤ 281474976710656) = True := by simp; omega
  have z4 : (((turnsN s l : Nat) : Int) ≤ 281474976710656) = True := by simp; omega
  clear hbn hb h2 hT
  have H := And.intro @encW_eq (And.intro @Int.toNat_natCast (And.intro @hlr (And.intro @z1 (And.intro @z2 (And.intro @z3 @z4)))))
  refine autoA ?_
  repeat' (first | (refine WK.draw (ops := #[_, _, _, _, _, _, _]) [dq 0 0, dq 0 0, dq 0 0, dq 0 0, dq 0 0, dm, dq 0 0] mixed (by kernel_rfl) ?_; refine autoA ?_) | (refine WK.draw (ops := #[_, _, _, _, _, _, _, _, _, _, _, _]) [dq 0 0, dq 0 0, dq 0 0, dq 0 0, dm, dq 0 0, dq 1 0, dq 0 0, dq 0 0, dq 0 0, dq 0 0, dm] mixed (by kernel_rfl) ?_; refine autoA ?_) | (refine WK.draw (ops := #[_, _, _, _, _, _, _, _, _, _, _, _, _]) [dq 0 0, dq 0 0, dq 0 0, dq 0 0, dq 0 0, dq 0 0, dq 0 0, dq 0 0, dq 0 0, dq 0 0, dq 0 0, dq 0 0, dm] mixed (by kernel_rfl) ?_; refine autoA ?_))
  try exact trivial
  have hb : turnsN s l < 100000 := by have := hw.few; unfold turnsN; omega
  have fl := fil_len (turnsN s l) (fun i => !svB s l g i || svB s l h i)
  have f0 := fil_0 (turnsN s l) (fun i => !svB s l g i || svB s l h i)
  have fs := fil_set (turnsN s l) (fun i => !svB s l g i || svB s l h i)
  have fn := fil_n (turnsN s l) (fun i => !svB s l g i || svB s l h i)
  generalize hF : filL (turnsN s l) (fun i => !svB s l g i || svB s l h i) = F at fl f0 fs fn
  have fb : ∀ m i, BelE m (F i) = True := fun m i => by rw [← hF]; exact fil_bel _ _ _ _
  refine WK.rangeX ((turnsN s l)) [2, 3, 5, 6, 7, 8, 9, 39] [] (fun i => []) (fun i => ((((Sto.none.add (.box [.int .i64 6, .int .i64 v, .list false (encFs [g, h])])).add (.box [.list false (s.map intE), .list false (l.map intE)])).add (.row 1 (List.replicate (turnsN s l) (.bool false)) false)).add (.row 1 (F i) false))) (by omega) (by decide) (by simp only [go_sem, seval, reduceCtorEq, f0, fb]) (by simp only [go_sem, seval, reduceCtorEq, f0, fb]) (by simp only [go_sem, seval, reduceCtorEq, f0, fb, List.take_zero]) (by first | rfl | (simp only [go_sem, seval, reduceCtorEq, f0, fb]; done) | (refine Sto.ext' (by simp only [go_sem, seval, reduceCtorEq, f0, fb]) (fun i => ?_); simp only [go_sem, seval, reduceCtorEq, f0, fb]; repeat' split; all_goals (first | rfl | omega | simp_all))) ?_ ?_
  · intro i hi
    have fl := fl i hi
    have fs := fs i hi
    have mg := tab_get (turnsN s l) (svB s l g) i hi
    have mh := tab_get (turnsN s l) (svB s l h) i hi
    cases ex : svB s l g i <;> cases ey : svB s l h i
    all_goals rw [ex] at mg; rw [ey] at mh; simp only [ex, ey, Bool.and_self, Bool.and_true, Bool.and_false, Bool.true_and, Bool.false_and, Bool.or_self, Bool.or_true, Bool.or_false, Bool.true_or, Bool.false_or, Bool.not_true, Bool.not_false, b_ff, b_ft, b_tf, b_tt] at fs
    all_goals clear hb
    all_goals
      have H := And.intro @f0 (And.intro @fb (And.intro @hi (And.intro @fb (And.intro @fl (And.intro @fs (And.intro @mg (And.intro @mh (And.intro @ex (And.intro @ey @hlr)))))))))
      refine autoA ?_
      repeat' (first | (refine WK.draw (ops := #[_, _, _, _, _, _, _]) [dq 0 0, dq 0 0, dq 0 0, dq 0 0, dq 0 0, dm, dq 0 0] mixed (by kernel_rfl) ?_; refine autoA ?_) | (refine WK.draw (ops := #[_, _, _, _, _, _, _, _, _, _, _, _]) [dq 0 0, dq 0 0, dq 0 0, dq 0 0, dm, dq 0 0, dq 1 0, dq 0 0, dq 0 0, dq 0 0, dq 0 0, dm] mixed (by kernel_rfl) ?_; refine autoA ?_) | (refine WK.draw (ops := #[_, _, _, _, _, _, _, _, _, _, _, _, _]) [dq 0 0, dq 0 0, dq 0 0, dq 0 0, dq 0 0, dq 0 0, dq 0 0, dq 0 0, dq 0 0, dq 0 0, dq 0 0, dq 0 0, dm] mixed (by kernel_rfl) ?_; refine autoA ?_))
      try exact trivial
      try exact cutA
  · skip
    clear hb
    rw [fn]
    refine WK.freeze 3 (by simp only [go_sem, seval, reduceCtorEq]; rfl) ?_
    have H := And.intro @f0 @fb
    refine autoA ?_
    repeat' (first | (refine WK.draw (ops := #[_, _, _, _, _, _, _]) [dq 0 0, dq 0 0, dq 0 0, dq 0 0, dq 0 0, dm, dq 0 0] mixed (by kernel_rfl) ?_; refine autoA ?_) | (refine WK.draw (ops := #[_, _, _, _, _, _, _, _, _, _, _, _]) [dq 0 0, dq 0 0, dq 0 0, dq 0 0, dm, dq 0 0, dq 1 0, dq 0 0, dq 0 0, dq 0 0, dq 0 0, dm] mixed (by kernel_rfl) ?_; refine autoA ?_) | (refine WK.draw (ops := #[_, _, _, _, _, _, _, _, _, _, _, _, _]) [dq 0 0, dq 0 0, dq 0 0, dq 0 0, dq 0 0, dq 0 0, dq 0 0, dq 0 0, dq 0 0, dq 0 0, dq 0 0, dq 0 0, dm] mixed (by kernel_rfl) ?_; refine autoA ?_))
    try exact trivial
    try exact cut_none _
theorem tbl7 (s l : List Int) (hw : WOK s l) (v : Int) (g h : Fm) (ig : Ctr (C gl) 33 [encF g, encW s l] True (.list false (tabL (turnsN s l) (svB s l g)))) (ih : Ctr (C gl) 33 [encF h, encW s l] True (.list false (tabL (turnsN s l) (svB s l h)))) : PCall (C gl) 33 [encF (.mk 7 v [g, h]), encW s l] (.list false (tabL (turnsN s l) (svB s l (.mk 7 v [g, h])))) := by
  have h1 := hw.pos
  have h2 := hw.few
  have hT : turnsN s l = s.length + 2 * l.length := turnsN_eq s l
  have eq : svB s l (.mk 7 v [g, h]) = fun i => svB s l g i == svB s l h i := funext fun i => (Eq.symm (svB_eq (by rw [sv_7, beq_iff_eq, Bool.eq_iff_iff, svB_iff, svB_iff])))
  rw [eq]
  have ct : Ctr (C gl) 32 [encW s l] True (.int .i64 (turnsN s l : Nat)) := ⟨fun _ => turns_ok' s l hw⟩
  have cl : ∀ k : Nat, Ctr (C gl) 44 [encW s l, .int .i64 (k : Int)] (k ≤ turnsN s l) (.list false ((laterN s l k).map natE)) := fun k => ⟨later_ok' s l hw k⟩
  rw [encW_eq] at ct ig ih
  simp only [encW_eq] at cl
  refine pcallX (callX_of b33 (by simp [Tryd.ntmps33]) ?_) (by simp only [AllCl, cl_encF, cl_encW, and_true]) (by rw [cl_list]; exact clE_tab _ _)
  refine W.of ?_
  rw [Tryd.ntmps33]
  simp only [toK, codeOf, Tryd.f33, go_sem, seval, reduceCtorEq]
  have hlr : (List.replicate (turnsN s l) (AV.bool false)).length = turnsN s l := List.length_replicate
  have hb : ((turnsN s l : Nat) : Int) < 100000 := by omega
  have hbn : turnsN s l < 100000 := by omega
  try simp only [go_sem, seval, reduceCtorEq, encW_eq]
  repeat (first | refine WK.blockSeq ?_ | refine WK.blockCond ?_ | refine WK.blockReg ?_ | (refine WK.condT ?_ ?_; (focus (simp only [go_sem, seval, reduceCtorEq, encW_eq]; done))) | (refine WK.condF ?_ ?_; (focus (simp only [go_sem, seval, reduceCtorEq, encW_eq]; done))) | refine WK.seq ?_ | ((first | refine WK.reg ?_ | refine WK.skip ?_ | refine WK.ret ?_ | refine WK.exit ?_); simp only [go_sem, seval, reduceCtorEq, encW_eq]) | ((with_reducible refine And.intro ?_ ?_); omega) | omega)
  refine callK_pureL ((turns_ok' s l hw)) rfl ?_ ?_ ?_ <;> simp only [go_sem, seval, reduceCtorEq, encW_eq]
  try simp only [go_sem, seval, reduceCtorEq, encW_eq]
  repeat (first | refine WK.blockSeq ?_ | refine WK.blockCond ?_ | refine WK.blockReg ?_ | (refine WK.condT ?_ ?_; (focus (simp only [go_sem, seval, reduceCtorEq, encW_eq]; done))) | (refine WK.condF ?_ ?_; (focus (simp only [go_sem, seval, reduceCtorEq, encW_eq]; done))) | refine WK.seq ?_ | ((first | refine WK.reg ?_ | refine WK.skip ?_ | refine WK.ret ?_ | refine WK.exit ?_); simp only [go_sem, seval, reduceCtorEq, encW_eq]) | ((with_reducible refine And.intro ?_ ?_); omega) | omega)
  refine callK_x0 ((notrow_ok' _ 2 (turnsN s l) hbn (by simp only [go_sem, seval, reduceCtorEq, Int.toNat_natCast]) (by simp only [go_sem, seval, reduceCtorEq]))) rfl ?_ ?_ ?_ <;> simp only [go_sem, seval, reduceCtorEq, encW_eq, Int.toNat_natCast]
  have z1 : ((0 : Int) ≤ ((turnsN s l : Nat) : Int)) = True := by simp
  have z2 : (((turnsN s l : Nat) : Int) ≤ ((turnsN s l : Nat) : Int)) = True := by simp
  have z3 : (((turnsN s l : Nat) : Int) * 1 ≤ 281474976710656) = True := by simp; omega
  have z4 : (((turnsN s l : Nat) : Int) ≤ 281474976710656) = True := by simp; omega
  clear hbn hb h2 hT
  have H := And.intro @encW_eq (And.intro @Int.toNat_natCast (And.intro @hlr (And.intro @z1 (And.intro @z2 (And.intro @z3 @z4)))))
  refine autoA ?_
  repeat' (first | (refine WK.draw (ops := #[_, _, _, _, _, _, _]) [dq 0 0, dq 0 0, dq 0 0, dq 0 0, dq 0 0, dm, dq 0 0] mixed (by kernel_rfl) ?_; refine autoA ?_) | (refine WK.draw (ops := #[_, _, _, _, _, _, _, _, _, _, _, _]) [dq 0 0, dq 0 0, dq 0 0, dq 0 0, dm, dq 0 0, dq 1 0, dq 0 0, dq 0 0, dq 0 0, dq 0 0, dm] mixed (by kernel_rfl) ?_; refine autoA ?_) | (refine WK.draw (ops := #[_, _, _, _, _, _, _, _, _, _, _, _, _]) [dq 0 0, dq 0 0, dq 0 0, dq 0 0, dq 0 0, dq 0 0, dq 0 0, dq 0 0, dq 0 0, dq 0 0, dq 0 0, dq 0 0, dm] mixed (by kernel_rfl) ?_; refine autoA ?_))
  try exact trivial
  have hb : turnsN s l < 100000 := by have := hw.few; unfold turnsN; omega
  have fl := fil_len (turnsN s l) (fun i => svB s l g i == svB s l h i)
  have f0 := fil_0 (turnsN s l) (fun i => svB s l g i == svB s l h i)
  have fs := fil_set (turnsN s l) (fun i => svB s l g i == svB s l h i)
  have fn := fil_n (turnsN s l) (fun i => svB s l g i == svB s l h i)
  generalize hF : filL (turnsN s l) (fun i => svB s l g i == svB s l h i) = F at fl f0 fs fn
  have fb : ∀ m i, BelE m (F i) = True := fun m i => by rw [← hF]; exact fil_bel _ _ _ _
  refine WK.rangeX ((turnsN s l)) [2, 3, 5, 6, 7, 8, 9, 39] [] (fun i => []) (fun i => ((((Sto.none.add (.box [.int .i64 7, .int .i64 v, .list false (encFs [g, h])])).add (.box [.list false (s.map intE), .list false (l.map intE)])).add (.row 1 (List.replicate (turnsN s l) (.bool false)) false)).add (.row 1 (F i) false))) (by omega) (by decide) (by simp only [go_sem, seval, reduceCtorEq, f0, fb]) (by simp only [go_sem, seval, reduceCtorEq, f0, fb]) (by simp only [go_sem, seval, reduceCtorEq, f0, fb, List.take_zero]) (by first | rfl | (simp only [go_sem, seval, reduceCtorEq, f0, fb]; done) | (refine Sto.ext' (by simp only [go_sem, seval, reduceCtorEq, f0, fb]) (fun i => ?_); simp only [go_sem, seval, reduceCtorEq, f0, fb]; repeat' split; all_goals (first | rfl | omega | simp_all))) ?_ ?_
  · intro i hi
    have fl := fl i hi
    have fs := fs i hi
    have mg := tab_get (turnsN s l) (svB s l g) i hi
    have mh := tab_get (turnsN s l) (svB s l h) i hi
    cases ex : svB s l g i <;> cases ey : svB s l h i
    all_goals rw [ex] at mg; rw [ey] at mh; simp only [ex, ey, Bool.and_self, Bool.and_true, Bool.and_false, Bool.true_and, Bool.false_and, Bool.or_self, Bool.or_true, Bool.or_false, Bool.true_or, Bool.false_or, Bool.not_true, Bool.not_false, b_ff, b_ft, b_tf, b_tt] at fs
    all_goals clear hb
    all_goals
      have H := And.intro @f0 (And.intro @fb (And.intro @hi (And.intro @fb (And.intro @fl (And.intro @fs (And.intro @mg (And.intro @mh (And.intro @ex (And.intro @ey (And.intro @hlr (And.intro @b_ff (And.intro @b_ft (And.intro @b_tf @b_tt)))))))))))))
      refine autoA ?_
      repeat' (first | (refine WK.draw (ops := #[_, _, _, _, _, _, _]) [dq 0 0, dq 0 0, dq 0 0, dq 0 0, dq 0 0, dm, dq 0 0] mixed (by kernel_rfl) ?_; refine autoA ?_) | (refine WK.draw (ops := #[_, _, _, _, _, _, _, _, _, _, _, _]) [dq 0 0, dq 0 0, dq 0 0, dq 0 0, dm, dq 0 0, dq 1 0, dq 0 0, dq 0 0, dq 0 0, dq 0 0, dm] mixed (by kernel_rfl) ?_; refine autoA ?_) | (refine WK.draw (ops := #[_, _, _, _, _, _, _, _, _, _, _, _, _]) [dq 0 0, dq 0 0, dq 0 0, dq 0 0, dq 0 0, dq 0 0, dq 0 0, dq 0 0, dq 0 0, dq 0 0, dq 0 0, dq 0 0, dm] mixed (by kernel_rfl) ?_; refine autoA ?_))
      try exact trivial
      try exact cutA
  · skip
    clear hb
    rw [fn]
    refine WK.freeze 3 (by simp only [go_sem, seval, reduceCtorEq]; rfl) ?_
    have H := And.intro @f0 @fb
    refine autoA ?_
    repeat' (first | (refine WK.draw (ops := #[_, _, _, _, _, _, _]) [dq 0 0, dq 0 0, dq 0 0, dq 0 0, dq 0 0, dm, dq 0 0] mixed (by kernel_rfl) ?_; refine autoA ?_) | (refine WK.draw (ops := #[_, _, _, _, _, _, _, _, _, _, _, _]) [dq 0 0, dq 0 0, dq 0 0, dq 0 0, dm, dq 0 0, dq 1 0, dq 0 0, dq 0 0, dq 0 0, dq 0 0, dm] mixed (by kernel_rfl) ?_; refine autoA ?_) | (refine WK.draw (ops := #[_, _, _, _, _, _, _, _, _, _, _, _, _]) [dq 0 0, dq 0 0, dq 0 0, dq 0 0, dq 0 0, dq 0 0, dq 0 0, dq 0 0, dq 0 0, dq 0 0, dq 0 0, dq 0 0, dm] mixed (by kernel_rfl) ?_; refine autoA ?_))
    try exact trivial
    try exact cut_none _
theorem tbl8 (s l : List Int) (hw : WOK s l) (v : Int) (g : Fm) (ig : Ctr (C gl) 33 [encF g, encW s l] True (.list false (tabL (turnsN s l) (svB s l g)))) : PCall (C gl) 33 [encF (.mk 8 v [g]), encW s l] (.list false (tabL (turnsN s l) (svB s l (.mk 8 v [g])))) := by
  have h1 := hw.pos
  have h2 := hw.few
  have hT : turnsN s l = s.length + 2 * l.length := turnsN_eq s l
  have eq : svB s l (.mk 8 v [g]) = fun i => svB s l g (i + 1) := funext fun i => (Eq.symm (svB_eq (by rw [sv_8, svB_iff])))
  rw [eq]
  have ct : Ctr (C gl) 32 [encW s l] True (.int .i64 (turnsN s l : Nat)) := ⟨fun _ => turns_ok' s l hw⟩
  have cl : ∀ k : Nat, Ctr (C gl) 44 [encW s l, .int .i64 (k : Int)] (k ≤ turnsN s l) (.list false ((laterN s l k).map natE)) := fun k => ⟨later_ok' s l hw k⟩
  rw [encW_eq] at ct ig
  simp only [encW_eq] at cl
  refine pcallX (callX_of b33 (by simp [Tryd.ntmps33]) ?_) (by simp only [AllCl, cl_encF, cl_encW, and_true]) (by rw [cl_list]; exact clE_tab _ _)
  refine W.of ?_
  rw [Tryd.ntmps33]
  simp only [toK, codeOf, Tryd.f33, go_sem, seval, reduceCtorEq]
  have hlr : (List.replicate (turnsN s l) (AV.bool false)).length = turnsN s l := List.length_replicate
  have hb : ((turnsN s l : Nat) : Int) < 100000 := by omega
  have hbn : turnsN s l < 100000 := by omega
  try simp only [go_sem, seval, reduceCtorEq, encW_eq]
  repeat (first | refine WK.blockSeq ?_ | refine WK.blockCond ?_ | refine WK.blockReg ?_ | (refine WK.condT ?_ ?_; (focus (simp only [go_sem, seval, reduceCtorEq, encW_eq]; done))) | (refine WK.condF ?_ ?_; (focus (simp only [go_sem, seval, reduceCtorEq, encW_eq]; done))) | refine WK.seq ?_ | ((first | refine WK.reg ?_ | refine WK.skip ?_ | refine WK.ret ?_ | refine WK.exit ?_); simp only [go_sem, seval, reduceCtorEq, encW_eq]) | ((with_reducible refine And.intro ?_ ?_); omega) | omega)
  refine callK_pureL ((turns_ok' s l hw)) rfl ?_ ?_ ?_ <;> simp only [go_sem, seval, reduceCtorEq, encW_eq]
  try simp only [go_sem, seval, reduceCtorEq, encW_eq]
  repeat (first | refine WK.blockSeq ?_ | refine WK.blockCond ?_ | refine WK.blockReg ?_ | (refine WK.condT ?_ ?_; (focus (simp only [go_sem, seval, reduceCtorEq, encW_eq]; done))) | (refine WK.condF ?_ ?_; (focus (simp only [go_sem, seval, reduceCtorEq, encW_eq]; done))) | refine WK.seq ?_ | ((first | refine WK.reg ?_ | refine WK.skip ?_ | refine WK.ret ?_ | refine WK.exit ?_); simp only [go_sem, seval, reduceCtorEq, encW_eq]) | ((with_reducible refine And.intro ?_ ?_); omega) | omega)
  refine callK_x0 ((notrow_ok' _ 2 (turnsN s l) hbn (by simp only [go_sem, seval, reduceCtorEq, Int.toNat_natCast]) (by simp only [go_sem, seval, reduceCtorEq]))) rfl ?_ ?_ ?_ <;> simp only [go_sem, seval, reduceCtorEq, encW_eq, Int.toNat_natCast]
  have z1 : ((0 : Int) ≤ ((turnsN s l : Nat) : Int)) = True := by simp
  have z2 : (((turnsN s l : Nat) : Int) ≤ ((turnsN s l : Nat) : Int)) = True := by simp
  have z3 : (((turnsN s l : Nat) : Int) * 1 ≤ 281474976710656) = True := by simp; omega
  have z4 : (((turnsN s l : Nat) : Int) ≤ 281474976710656) = True := by simp; omega
  clear hbn hb h2 hT
  have H := And.intro @encW_eq (And.intro @Int.toNat_natCast (And.intro @hlr (And.intro @z1 (And.intro @z2 (And.intro @z3 @z4)))))
  refine autoA ?_
  repeat' (first | (refine WK.draw (ops := #[_, _, _, _, _, _, _]) [dq 0 0, dq 0 0, dq 0 0, dq 0 0, dq 0 0, dm, dq 0 0] mixed (by kernel_rfl) ?_; refine autoA ?_) | (refine WK.draw (ops := #[_, _, _, _, _, _, _, _, _, _, _, _]) [dq 0 0, dq 0 0, dq 0 0, dq 0 0, dm, dq 0 0, dq 1 0, dq 0 0, dq 0 0, dq 0 0, dq 0 0, dm] mixed (by kernel_rfl) ?_; refine autoA ?_) | (refine WK.draw (ops := #[_, _, _, _, _, _, _, _, _, _, _, _, _]) [dq 0 0, dq 0 0, dq 0 0, dq 0 0, dq 0 0, dq 0 0, dq 0 0, dq 0 0, dq 0 0, dq 0 0, dq 0 0, dq 0 0, dm] mixed (by kernel_rfl) ?_; refine autoA ?_))
  try exact trivial
  have hb : turnsN s l < 100000 := by have := hw.few; unfold turnsN; omega
  have fl := fil_len (turnsN s l) (fun i => svB s l g (i + 1))
  have f0 := fil_0 (turnsN s l) (fun i => svB s l g (i + 1))
  have fs := fil_set (turnsN s l) (fun i => svB s l g (i + 1))
  have fn := fil_n (turnsN s l) (fun i => svB s l g (i + 1))
  generalize hF : filL (turnsN s l) (fun i => svB s l g (i + 1)) = F at fl f0 fs fn
  have fb : ∀ m i, BelE m (F i) = True := fun m i => by rw [← hF]; exact fil_bel _ _ _ _
  refine WK.rangeX ((turnsN s l)) [2, 3, 5, 6, 7, 8, 9, 39] [] (fun i => []) (fun i => ((((Sto.none.add (.box [.int .i64 8, .int .i64 v, .list false (encFs [g])])).add (.box [.list false (s.map intE), .list false (l.map intE)])).add (.row 1 (List.replicate (turnsN s l) (.bool false)) false)).add (.row 1 (F i) false))) (by omega) (by decide) (by simp only [go_sem, seval, reduceCtorEq, f0, fb]) (by simp only [go_sem, seval, reduceCtorEq, f0, fb]) (by simp only [go_sem, seval, reduceCtorEq, f0, fb, List.take_zero]) (by first | rfl | (simp only [go_sem, seval, reduceCtorEq, f0, fb]; done) | (refine Sto.ext' (by simp only [go_sem, seval, reduceCtorEq, f0, fb]) (fun i => ?_); simp only [go_sem, seval, reduceCtorEq, f0, fb]; repeat' split; all_goals (first | rfl | omega | simp_all))) ?_ ?_
  · intro i hi
    have hi2 : i + 1 ≤ turnsN s l := hi
    have hn1 : 1 < turnsN s l := by have := hw.few; have := hw.pos; unfold turnsN; omega
    have fl := fl i hi
    have fs := fs i hi
    have e1 := nat_get (laterN s l i) 1 (by rw [later_len]; exact hn1)
    rw [later_get hn1] at e1
    have e2 := tab_get (turnsN s l) (svB s l g) (posN s l (i + 1)) (pos_lt h1 _)
    rw [svB_pos] at e2
    have e3 : ((laterN s l i).map natE).length = turnsN s l := by rw [nat_len, later_len]
    have e4 := pos_lt h1 (s := s) (i + 1)
    all_goals clear hb
    all_goals
      have H := And.intro @f0 (And.intro @fb (And.intro @hi (And.intro @fb (And.intro @fl (And.intro @fs (And.intro @e1 (And.intro @e2 (And.intro @e3 (And.intro @e4 @hlr)))))))))
      refine autoA ?_
      repeat' (first | (refine WK.draw (ops := #[_, _, _, _, _, _, _]) [dq 0 0, dq 0 0, dq 0 0, dq 0 0, dq 0 0, dm, dq 0 0] mixed (by kernel_rfl) ?_; refine autoA ?_) | (refine WK.draw (ops := #[_, _, _, _, _, _, _, _, _, _, _, _]) [dq 0 0, dq 0 0, dq 0 0, dq 0 0, dm, dq 0 0, dq 1 0, dq 0 0, dq 0 0, dq 0 0, dq 0 0, dm] mixed (by kernel_rfl) ?_; refine autoA ?_) | (refine WK.draw (ops := #[_, _, _, _, _, _, _, _, _, _, _, _, _]) [dq 0 0, dq 0 0, dq 0 0, dq 0 0, dq 0 0, dq 0 0, dq 0 0, dq 0 0, dq 0 0, dq 0 0, dq 0 0, dq 0 0, dm] mixed (by kernel_rfl) ?_; refine autoA ?_))
      try exact trivial
      try exact cutA
  · skip
    clear hb
    rw [fn]
    refine WK.freeze 3 (by simp only [go_sem, seval, reduceCtorEq]; rfl) ?_
    have H := And.intro @f0 @fb
    refine autoA ?_
    repeat' (first | (refine WK.draw (ops := #[_, _, _, _, _, _, _]) [dq 0 0, dq 0 0, dq 0 0, dq 0 0, dq 0 0, dm, dq 0 0] mixed (by kernel_rfl) ?_; refine autoA ?_) | (refine WK.draw (ops := #[_, _, _, _, _, _, _, _, _, _, _, _]) [dq 0 0, dq 0 0, dq 0 0, dq 0 0, dm, dq 0 0, dq 1 0, dq 0 0, dq 0 0, dq 0 0, dq 0 0, dm] mixed (by kernel_rfl) ?_; refine autoA ?_) | (refine WK.draw (ops := #[_, _, _, _, _, _, _, _, _, _, _, _, _]) [dq 0 0, dq 0 0, dq 0 0, dq 0 0, dq 0 0, dq 0 0, dq 0 0, dq 0 0, dq 0 0, dq 0 0, dq 0 0, dq 0 0, dm] mixed (by kernel_rfl) ?_; refine autoA ?_))
    try exact trivial
    try exact cut_none _
theorem tbl9 (s l : List Int) (hw : WOK s l) (v : Int) (g : Fm) (ig : Ctr (C gl) 33 [encF g, encW s l] True (.list false (tabL (turnsN s l) (svB s l g)))) : PCall (C gl) 33 [encF (.mk 9 v [g]), encW s l] (.list false (tabL (turnsN s l) (svB s l (.mk 9 v [g])))) := by
  have h1 := hw.pos
  have h2 := hw.few
  have hT : turnsN s l = s.length + 2 * l.length := turnsN_eq s l
  have eq : svB s l (.mk 9 v [g]) = fun i => untB (laterN s l i) (fun _ => true) (svB s l g) := funext fun i => (Eq.symm (tb_9 h1 i))
  rw [eq]
  have ct : Ctr (C gl) 32 [encW s l] True (.int .i64 (turnsN s l : Nat)) := ⟨fun _ => turns_ok' s l hw⟩
  have cl : ∀ k : Nat, Ctr (C gl) 44 [encW s l, .int .i64 (k : Int)] (k ≤ turnsN s l) (.list false ((laterN s l k).map natE)) := fun k => ⟨later_ok' s l hw k⟩
  have cu : ∀ (k : Nat) (p q : Nat → Bool), Ctr (C gl) 46 [.list false ((laterN s l k).map natE), .list false (tabL (turnsN s l) p), .list false (tabL (turnsN s l) q)] True (.bool (untB (laterN s l k) p q)) := fun k p q => ⟨fun _ => until_ok' _ _ p q (fun j hj => by obtain ⟨i, _, rfl⟩ := List.mem_map.1 hj; exact pos_lt h1 _) (by rw [later_len]; omega)⟩
  rw [encW_eq] at ct ig
  simp only [encW_eq] at cl
  refine pcallX (callX_of b33 (by simp [Tryd.ntmps33]) ?_) (by simp only [AllCl, cl_encF, cl_encW, and_true]) (by rw [cl_list]; exact clE_tab _ _)
  refine W.of ?_
  rw [Tryd.ntmps33]
  simp only [toK, codeOf, Tryd.f33, go_sem, seval, reduceCtorEq]
  have hlr : (List.replicate (turnsN s l) (AV.bool false)).length = turnsN s l := List.length_replicate
  have hb : ((turnsN s l : Nat) : Int) < 100000 := by omega
  have hbn : turnsN s l < 100000 := by omega
  try simp only [go_sem, seval, reduceCtorEq, encW_eq]
  repeat (first | refine WK.blockSeq ?_ | refine WK.blockCond ?_ | refine WK.blockReg ?_ | (refine WK.condT ?_ ?_; (focus (simp only [go_sem, seval, reduceCtorEq, encW_eq]; done))) | (refine WK.condF ?_ ?_; (focus (simp only [go_sem, seval, reduceCtorEq, encW_eq]; done))) | refine WK.seq ?_ | ((first | refine WK.reg ?_ | refine WK.skip ?_ | refine WK.ret ?_ | refine WK.exit ?_); simp only [go_sem, seval, reduceCtorEq, encW_eq]) | ((with_reducible refine And.intro ?_ ?_); omega) | omega)
  refine callK_pureL ((turns_ok' s l hw)) rfl ?_ ?_ ?_ <;> simp only [go_sem, seval, reduceCtorEq, encW_eq]
  try simp only [go_sem, seval, reduceCtorEq, encW_eq]
  repeat (first | refine WK.blockSeq ?_ | refine WK.blockCond ?_ | refine WK.blockReg ?_ | (refine WK.condT ?_ ?_; (focus (simp only [go_sem, seval, reduceCtorEq, encW_eq]; done))) | (refine WK.condF ?_ ?_; (focus (simp only [go_sem, seval, reduceCtorEq, encW_eq]; done))) | refine WK.seq ?_ | ((first | refine WK.reg ?_ | refine WK.skip ?_ | refine WK.ret ?_ | refine WK.exit ?_); simp only [go_sem, seval, reduceCtorEq, encW_eq]) | ((with_reducible refine And.intro ?_ ?_); omega) | omega)
  refine callK_x0 ((notrow_ok' _ 2 (turnsN s l) hbn (by simp only [go_sem, seval, reduceCtorEq, Int.toNat_natCast]) (by simp only [go_sem, seval, reduceCtorEq]))) rfl ?_ ?_ ?_ <;> simp only [go_sem, seval, reduceCtorEq, encW_eq, Int.toNat_natCast]
  have z1 : ((0 : Int) ≤ ((turnsN s l : Nat) : Int)) = True := by simp
  have z2 : (((turnsN s l : Nat) : Int) ≤ ((turnsN s l : Nat) : Int)) = True := by simp
  have z3 : (((turnsN s l : Nat) : Int) * 1 ≤ 281474976710656) = True := by simp; omega
  have z4 : (((turnsN s l : Nat) : Int) ≤ 281474976710656) = True := by simp; omega
  clear hbn hb h2 hT
  have H := And.intro @encW_eq (And.intro @Int.toNat_natCast (And.intro @hlr (And.intro @z1 (And.intro @z2 (And.intro @z3 @z4)))))
  refine autoA ?_
  repeat' (first | (refine WK.draw (ops := #[_, _, _, _, _, _, _]) [dq 0 0, dq 0 0, dq 0 0, dq 0 0, dq 0 0, dm, dq 0 0] mixed (by kernel_rfl) ?_; refine autoA ?_) | (refine WK.draw (ops := #[_, _, _, _, _, _, _, _, _, _, _, _]) [dq 0 0, dq 0 0, dq 0 0, dq 0 0, dm, dq 0 0, dq 1 0, dq 0 0, dq 0 0, dq 0 0, dq 0 0, dm] mixed (by kernel_rfl) ?_; refine autoA ?_) | (refine WK.draw (ops := #[_, _, _, _, _, _, _, _, _, _, _, _, _]) [dq 0 0, dq 0 0, dq 0 0, dq 0 0, dq 0 0, dq 0 0, dq 0 0, dq 0 0, dq 0 0, dq 0 0, dq 0 0, dq 0 0, dm] mixed (by kernel_rfl) ?_; refine autoA ?_))
  try exact trivial
  have hb : turnsN s l < 100000 := by have := hw.few; unfold turnsN; omega
  have fl := fil_len (turnsN s l) (fun i => untB (laterN s l i) (fun _ => true) (svB s l g))
  have f0 := fil_0 (turnsN s l) (fun i => untB (laterN s l i) (fun _ => true) (svB s l g))
  have fs := fil_set (turnsN s l) (fun i => untB (laterN s l i) (fun _ => true) (svB s l g))
  have fn := fil_n (turnsN s l) (fun i => untB (laterN s l i) (fun _ => true) (svB s l g))
  generalize hF : filL (turnsN s l) (fun i => untB (laterN s l i) (fun _ => true) (svB s l g)) = F at fl f0 fs fn
  have fb : ∀ m i, BelE m (F i) = True := fun m i => by rw [← hF]; exact fil_bel _ _ _ _
  refine WK.rangeX ((turnsN s l)) [2, 3, 5, 6, 7, 8, 9, 39] [] (fun i => []) (fun i => ((((Sto.none.add (.box [.int .i64 9, .int .i64 v, .list false (encFs [g])])).add (.box [.list false (s.map intE), .list false (l.map intE)])).add (.row 1 (List.replicate (turnsN s l) (.bool false)) false)).add (.row 1 (F i) false))) (by omega) (by decide) (by simp only [go_sem, seval, reduceCtorEq, f0, fb]) (by simp only [go_sem, seval, reduceCtorEq, f0, fb]) (by simp only [go_sem, seval, reduceCtorEq, f0, fb, List.take_zero]) (by first | rfl | (simp only [go_sem, seval, reduceCtorEq, f0, fb]; done) | (refine Sto.ext' (by simp only [go_sem, seval, reduceCtorEq, f0, fb]) (fun i => ?_); simp only [go_sem, seval, reduceCtorEq, f0, fb]; repeat' split; all_goals (first | rfl | omega | simp_all))) ?_ ?_
  · intro i hi
    have fl := fl i hi
    have fs := fs i hi
    all_goals clear hb
    all_goals
      have H := And.intro @f0 (And.intro @fb (And.intro @hi (And.intro @fb (And.intro @fl (And.intro @fs @hlr)))))
      refine autoA ?_
      repeat' (first | (refine WK.draw (ops := #[_, _, _, _, _, _, _]) [dq 0 0, dq 0 0, dq 0 0, dq 0 0, dq 0 0, dm, dq 0 0] mixed (by kernel_rfl) ?_; refine autoA ?_) | (refine WK.draw (ops := #[_, _, _, _, _, _, _, _, _, _, _, _]) [dq 0 0, dq 0 0, dq 0 0, dq 0 0, dm, dq 0 0, dq 1 0, dq 0 0, dq 0 0, dq 0 0, dq 0 0, dm] mixed (by kernel_rfl) ?_; refine autoA ?_) | (refine WK.draw (ops := #[_, _, _, _, _, _, _, _, _, _, _, _, _]) [dq 0 0, dq 0 0, dq 0 0, dq 0 0, dq 0 0, dq 0 0, dq 0 0, dq 0 0, dq 0 0, dq 0 0, dq 0 0, dq 0 0, dm] mixed (by kernel_rfl) ?_; refine autoA ?_))
      try exact trivial
      try exact cutA
  · skip
    clear hb
    rw [fn]
    refine WK.freeze 3 (by simp only [go_sem, seval, reduceCtorEq]; rfl) ?_
    have H := And.intro @f0 @fb
    refine autoA ?_
    repeat' (first | (refine WK.draw (ops := #[_, _, _, _, _, _, _]) [dq 0 0, dq 0 0, dq 0 0, dq 0 0, dq 0 0, dm, dq 0 0] mixed (by kernel_rfl) ?_; refine autoA ?_) | (refine WK.draw (ops := #[_, _, _, _, _, _, _, _, _, _, _, _]) [dq 0 0, dq 0 0, dq 0 0, dq 0 0, dm, dq 0 0, dq 1 0, dq 0 0, dq 0 0, dq 0 0, dq 0 0, dm] mixed (by kernel_rfl) ?_; refine autoA ?_) | (refine WK.draw (ops := #[_, _, _, _, _, _, _, _, _, _, _, _, _]) [dq 0 0, dq 0 0, dq 0 0, dq 0 0, dq 0 0, dq 0 0, dq 0 0, dq 0 0, dq 0 0, dq 0 0, dq 0 0, dq 0 0, dm] mixed (by kernel_rfl) ?_; refine autoA ?_))
    try exact trivial
    try exact cut_none _
theorem tbl10 (s l : List Int) (hw : WOK s l) (v : Int) (g : Fm) (ig : Ctr (C gl) 33 [encF g, encW s l] True (.list false (tabL (turnsN s l) (svB s l g)))) : PCall (C gl) 33 [encF (.mk 10 v [g]), encW s l] (.list false (tabL (turnsN s l) (svB s l (.mk 10 v [g])))) := by
  have h1 := hw.pos
  have h2 := hw.few
  have hT : turnsN s l = s.length + 2 * l.length := turnsN_eq s l
  have eq : svB s l (.mk 10 v [g]) = fun i => !untB (laterN s l i) (fun _ => true) (fun i => !svB s l g i) := funext fun i => (Eq.symm (tb_10 h1 i))
  rw [eq]
  have ct : Ctr (C gl) 32 [encW s l] True (.int .i64 (turnsN s l : Nat)) := ⟨fun _ => turns_ok' s l hw⟩
  have cl : ∀ k : Nat, Ctr (C gl) 44 [encW s l, .int .i64 (k : Int)] (k ≤ turnsN s l) (.list false ((laterN s l k).map natE)) := fun k => ⟨later_ok' s l hw k⟩
  have cn : ∀ p, Ctr (C gl) 43 [.list false (tabL (turnsN s l) p)] True (.list false (tabL (turnsN s l) fun i => !p i)) := fun p => ⟨fun _ => not_ok' _ p (by omega)⟩
  have cu : ∀ (k : Nat) (p q : Nat → Bool), Ctr (C gl) 46 [.list false ((laterN s l k).map natE), .list false (tabL (turnsN s l) p), .list false (tabL (turnsN s l) q)] True (.bool (untB (laterN s l k) p q)) := fun k p q => ⟨fun _ => until_ok' _ _ p q (fun j hj => by obtain ⟨i, _, rfl⟩ := List.mem_map.1 hj; exact pos_lt h1 _) (by rw [later_len]; omega)⟩
  rw [encW_eq] at ct ig
  simp only [encW_eq] at cl
  refine pcallX (callX_of b33 (by simp [Tryd.ntmps33]) ?_) (by simp only [AllCl, cl_encF, cl_encW, and_true]) (by rw [cl_list]; exact clE_tab _ _)
  refine W.of ?_
  rw [Tryd.ntmps33]
  simp only [toK, codeOf, Tryd.f33, go_sem, seval, reduceCtorEq]
  have hlr : (List.replicate (turnsN s l) (AV.bool false)).length = turnsN s l := List.length_replicate
  have hb : ((turnsN s l : Nat) : Int) < 100000 := by omega
  have hbn : turnsN s l < 100000 := by omega
  try simp only [go_sem, seval, reduceCtorEq, encW_eq]
  repeat (first | refine WK.blockSeq ?_ | refine WK.blockCond ?_ | refine WK.blockReg ?_ | (refine WK.condT ?_ ?_; (focus (simp only [go_sem, seval, reduceCtorEq, encW_eq]; done))) | (refine WK.condF ?_ ?_; (focus (simp only [go_sem, seval, reduceCtorEq, encW_eq]; done))) | refine WK.seq ?_ | ((first | refine WK.reg ?_ | refine WK.skip ?_ | refine WK.ret ?_ | refine WK.exit ?_); simp only [go_sem, seval, reduceCtorEq, encW_eq]) | ((with_reducible refine And.intro ?_ ?_); omega) | omega)
  refine callK_pureL ((turns_ok' s l hw)) rfl ?_ ?_ ?_ <;> simp only [go_sem, seval, reduceCtorEq, encW_eq]
  try simp only [go_sem, seval, reduceCtorEq, encW_eq]
  repeat (first | refine WK.blockSeq ?_ | refine WK.blockCond ?_ | refine WK.blockReg ?_ | (refine WK.condT ?_ ?_; (focus (simp only [go_sem, seval, reduceCtorEq, encW_eq]; done))) | (refine WK.condF ?_ ?_; (focus (simp only [go_sem, seval, reduceCtorEq, encW_eq]; done))) | refine WK.seq ?_ | ((first | refine WK.reg ?_ | refine WK.skip ?_ | refine WK.ret ?_ | refine WK.exit ?_); simp only [go_sem, seval, reduceCtorEq, encW_eq]) | ((with_reducible refine And.intro ?_ ?_); omega) | omega)
  refine callK_x0 ((notrow_ok' _ 2 (turnsN s l) hbn (by simp only [go_sem, seval, reduceCtorEq, Int.toNat_natCast]) (by simp only [go_sem, seval, reduceCtorEq]))) rfl ?_ ?_ ?_ <;> simp only [go_sem, seval, reduceCtorEq, encW_eq, Int.toNat_natCast]
  have z1 : ((0 : Int) ≤ ((turnsN s l : Nat) : Int)) = True := by simp
  have z2 : (((turnsN s l : Nat) : Int) ≤ ((turnsN s l : Nat) : Int)) = True := by simp
  have z3 : (((turnsN s l : Nat) : Int) * 1 ≤ 281474976710656) = True := by simp; omega
  have z4 : (((turnsN s l : Nat) : Int) ≤ 281474976710656) = True := by simp; omega
  clear hbn hb h2 hT
  have H := And.intro @encW_eq (And.intro @Int.toNat_natCast (And.intro @hlr (And.intro @z1 (And.intro @z2 (And.intro @z3 @z4)))))
  refine autoA ?_
  repeat' (first | (refine WK.draw (ops := #[_, _, _, _, _, _, _]) [dq 0 0, dq 0 0, dq 0 0, dq 0 0, dq 0 0, dm, dq 0 0] mixed (by kernel_rfl) ?_; refine autoA ?_) | (refine WK.draw (ops := #[_, _, _, _, _, _, _, _, _, _, _, _]) [dq 0 0, dq 0 0, dq 0 0, dq 0 0, dm, dq 0 0, dq 1 0, dq 0 0, dq 0 0, dq 0 0, dq 0 0, dm] mixed (by kernel_rfl) ?_; refine autoA ?_) | (refine WK.draw (ops := #[_, _, _, _, _, _, _, _, _, _, _, _, _]) [dq 0 0, dq 0 0, dq 0 0, dq 0 0, dq 0 0, dq 0 0, dq 0 0, dq 0 0, dq 0 0, dq 0 0, dq 0 0, dq 0 0, dm] mixed (by kernel_rfl) ?_; refine autoA ?_))
  try exact trivial
  have hb : turnsN s l < 100000 := by have := hw.few; unfold turnsN; omega
  have fl := fil_len (turnsN s l) (fun i => !untB (laterN s l i) (fun _ => true) (fun i => !svB s l g i))
  have f0 := fil_0 (turnsN s l) (fun i => !untB (laterN s l i) (fun _ => true) (fun i => !svB s l g i))
  have fs := fil_set (turnsN s l) (fun i => !untB (laterN s l i) (fun _ => true) (fun i => !svB s l g i))
  have fn := fil_n (turnsN s l) (fun i => !untB (laterN s l i) (fun _ => true) (fun i => !svB s l g i))
  generalize hF : filL (turnsN s l) (fun i => !untB (laterN s l i) (fun _ => true) (fun i => !svB s l g i)) = F at fl f0 fs fn
  have fb : ∀ m i, BelE m (F i) = True := fun m i => by rw [← hF]; exact fil_bel _ _ _ _
  refine WK.rangeX ((turnsN s l)) [2, 3, 5, 6, 7, 8, 9, 39] [] (fun i => []) (fun i => ((((Sto.none.add (.box [.int .i64 10, .int .i64 v, .list false (encFs [g])])).add (.box [.list false (s.map intE), .list false (l.map intE)])).add (.row 1 (List.replicate (turnsN s l) (.bool false)) false)).add (.row 1 (F i) false))) (by omega) (by decide) (by simp only [go_sem, seval, reduceCtorEq, f0, fb]) (by simp only [go_sem, seval, reduceCtorEq, f0, fb]) (by simp only [go_sem, seval, reduceCtorEq, f0, fb, List.take_zero]) (by first | rfl | (simp only [go_sem, seval, reduceCtorEq, f0, fb]; done) | (refine Sto.ext' (by simp only [go_sem, seval, reduceCtorEq, f0, fb]) (fun i => ?_); simp only [go_sem, seval, reduceCtorEq, f0, fb]; repeat' split; all_goals (first | rfl | omega | simp_all))) ?_ ?_
  · intro i hi
    have fl := fl i hi
    have fs := fs i hi
    all_goals clear hb
    all_goals
      have H := And.intro @f0 (And.intro @fb (And.intro @hi (And.intro @fb (And.intro @fl (And.intro @fs @hlr)))))
      refine autoA ?_
      repeat' (first | (refine WK.draw (ops := #[_, _, _, _, _, _, _]) [dq 0 0, dq 0 0, dq 0 0, dq 0 0, dq 0 0, dm, dq 0 0] mixed (by kernel_rfl) ?_; refine autoA ?_) | (refine WK.draw (ops := #[_, _, _, _, _, _, _, _, _, _, _, _]) [dq 0 0, dq 0 0, dq 0 0, dq 0 0, dm, dq 0 0, dq 1 0, dq 0 0, dq 0 0, dq 0 0, dq 0 0, dm] mixed (by kernel_rfl) ?_; refine autoA ?_) | (refine WK.draw (ops := #[_, _, _, _, _, _, _, _, _, _, _, _, _]) [dq 0 0, dq 0 0, dq 0 0, dq 0 0, dq 0 0, dq 0 0, dq 0 0, dq 0 0, dq 0 0, dq 0 0, dq 0 0, dq 0 0, dm] mixed (by kernel_rfl) ?_; refine autoA ?_))
      try exact trivial
      try exact cutA
  · skip
    clear hb
    rw [fn]
    refine WK.freeze 3 (by simp only [go_sem, seval, reduceCtorEq]; rfl) ?_
    have H := And.intro @f0 @fb
    refine autoA ?_
    repeat' (first | (refine WK.draw (ops := #[_, _, _, _, _, _, _]) [dq 0 0, dq 0 0, dq 0 0, dq 0 0, dq 0 0, dm, dq 0 0] mixed (by kernel_rfl) ?_; refine autoA ?_) | (refine WK.draw (ops := #[_, _, _, _, _, _, _, _, _, _, _, _]) [dq 0 0, dq 0 0, dq 0 0, dq 0 0, dm, dq 0 0, dq 1 0, dq 0 0, dq 0 0, dq 0 0, dq 0 0, dm] mixed (by kernel_rfl) ?_; refine autoA ?_) | (refine WK.draw (ops := #[_, _, _, _, _, _, _, _, _, _, _, _, _]) [dq 0 0, dq 0 0, dq 0 0, dq 0 0, dq 0 0, dq 0 0, dq 0 0, dq 0 0, dq 0 0, dq 0 0, dq 0 0, dq 0 0, dm] mixed (by kernel_rfl) ?_; refine autoA ?_))
    try exact trivial
    try exact cut_none _
theorem tbl11 (s l : List Int) (hw : WOK s l) (v : Int) (g h : Fm) (ig : Ctr (C gl) 33 [encF g, encW s l] True (.list false (tabL (turnsN s l) (svB s l g)))) (ih : Ctr (C gl) 33 [encF h, encW s l] True (.list false (tabL (turnsN s l) (svB s l h)))) : PCall (C gl) 33 [encF (.mk 11 v [g, h]), encW s l] (.list false (tabL (turnsN s l) (svB s l (.mk 11 v [g, h])))) := by
  have h1 := hw.pos
  have h2 := hw.few
  have hT : turnsN s l = s.length + 2 * l.length := turnsN_eq s l
  have eq : svB s l (.mk 11 v [g, h]) = fun i => untB (laterN s l i) (svB s l g) (svB s l h) := funext fun i => (Eq.symm (tb_11 h1 i))
  rw [eq]
  have ct : Ctr (C gl) 32 [encW s l] True (.int .i64 (turnsN s l : Nat)) := ⟨fun _ => turns_ok' s l hw⟩
  have cl : ∀ k : Nat, Ctr (C gl) 44 [encW s l, .int .i64 (k : Int)] (k ≤ turnsN s l) (.list false ((laterN s l k).map natE)) := fun k => ⟨later_ok' s l hw k⟩
  have cu : ∀ (k : Nat) (p q : Nat → Bool), Ctr (C gl) 46 [.list false ((laterN s l k).map natE), .list false (tabL (turnsN s l) p), .list false (tabL (turnsN s l) q)] True (.bool (untB (laterN s l k) p q)) := fun k p q => ⟨fun _ => until_ok' _ _ p q (fun j hj => by obtain ⟨i, _, rfl⟩ := List.mem_map.1 hj; exact pos_lt h1 _) (by rw [later_len]; omega)⟩
  rw [encW_eq] at ct ig ih
  simp only [encW_eq] at cl
  refine pcallX (callX_of b33 (by simp [Tryd.ntmps33]) ?_) (by simp only [AllCl, cl_encF, cl_encW, and_true]) (by rw [cl_list]; exact clE_tab _ _)
  refine W.of ?_
  rw [Tryd.ntmps33]
  simp only [toK, codeOf, Tryd.f33, go_sem, seval, reduceCtorEq]
  have hlr : (List.replicate (turnsN s l) (AV.bool false)).length = turnsN s l := List.length_replicate
  have hb : ((turnsN s l : Nat) : Int) < 100000 := by omega
  have hbn : turnsN s l < 100000 := by omega
  try simp only [go_sem, seval, reduceCtorEq, encW_eq]
  repeat (first | refine WK.blockSeq ?_ | refine WK.blockCond ?_ | refine WK.blockReg ?_ | (refine WK.condT ?_ ?_; (focus (simp only [go_sem, seval, reduceCtorEq, encW_eq]; done))) | (refine WK.condF ?_ ?_; (focus (simp only [go_sem, seval, reduceCtorEq, encW_eq]; done))) | refine WK.seq ?_ | ((first | refine WK.reg ?_ | refine WK.skip ?_ | refine WK.ret ?_ | refine WK.exit ?_); simp only [go_sem, seval, reduceCtorEq, encW_eq]) | ((with_reducible refine And.intro ?_ ?_); omega) | omega)
  refine callK_pureL ((turns_ok' s l hw)) rfl ?_ ?_ ?_ <;> simp only [go_sem, seval, reduceCtorEq, encW_eq]
  try simp only [go_sem, seval, reduceCtorEq, encW_eq]
  repeat (first | refine WK.blockSeq ?_ | refine WK.blockCond ?_ | refine WK.blockReg ?_ | (refine WK.condT ?_ ?_; (focus (simp only [go_sem, seval, reduceCtorEq, encW_eq]; done))) | (refine WK.condF ?_ ?_; (focus (simp only [go_sem, seval, reduceCtorEq, encW_eq]; done))) | refine WK.seq ?_ | ((first | refine WK.reg ?_ | refine WK.skip ?_ | refine WK.ret ?_ | refine WK.exit ?_); simp only [go_sem, seval, reduceCtorEq, encW_eq]) | ((with_reducible refine And.intro ?_ ?_); omega) | omega)
  refine callK_x0 ((notrow_ok' _ 2 (turnsN s l) hbn (by simp only [go_sem, seval, reduceCtorEq, Int.toNat_natCast]) (by simp only [go_sem, seval, reduceCtorEq]))) rfl ?_ ?_ ?_ <;> simp only [go_sem, seval, reduceCtorEq, encW_eq, Int.toNat_natCast]
  have z1 : ((0 : Int) ≤ ((turnsN s l : Nat) : Int)) = True := by simp
  have z2 : (((turnsN s l : Nat) : Int) ≤ ((turnsN s l : Nat) : Int)) = True := by simp
  have z3 : (((turnsN s l : Nat) : Int) * 1 ≤ 281474976710656) = True := by simp; omega
  have z4 : (((turnsN s l : Nat) : Int) ≤ 281474976710656) = True := by simp; omega
  clear hbn hb h2 hT
  have H := And.intro @encW_eq (And.intro @Int.toNat_natCast (And.intro @hlr (And.intro @z1 (And.intro @z2 (And.intro @z3 @z4)))))
  refine autoA ?_
  repeat' (first | (refine WK.draw (ops := #[_, _, _, _, _, _, _]) [dq 0 0, dq 0 0, dq 0 0, dq 0 0, dq 0 0, dm, dq 0 0] mixed (by kernel_rfl) ?_; refine autoA ?_) | (refine WK.draw (ops := #[_, _, _, _, _, _, _, _, _, _, _, _]) [dq 0 0, dq 0 0, dq 0 0, dq 0 0, dm, dq 0 0, dq 1 0, dq 0 0, dq 0 0, dq 0 0, dq 0 0, dm] mixed (by kernel_rfl) ?_; refine autoA ?_) | (refine WK.draw (ops := #[_, _, _, _, _, _, _, _, _, _, _, _, _]) [dq 0 0, dq 0 0, dq 0 0, dq 0 0, dq 0 0, dq 0 0, dq 0 0, dq 0 0, dq 0 0, dq 0 0, dq 0 0, dq 0 0, dm] mixed (by kernel_rfl) ?_; refine autoA ?_))
  try exact trivial
  have hb : turnsN s l < 100000 := by have := hw.few; unfold turnsN; omega
  have fl := fil_len (turnsN s l) (fun i => untB (laterN s l i) (svB s l g) (svB s l h))
  have f0 := fil_0 (turnsN s l) (fun i => untB (laterN s l i) (svB s l g) (svB s l h))
  have fs := fil_set (turnsN s l) (fun i => untB (laterN s l i) (svB s l g) (svB s l h))
  have fn := fil_n (turnsN s l) (fun i => untB (laterN s l i) (svB s l g) (svB s l h))
  generalize hF : filL (turnsN s l) (fun i => untB (laterN s l i) (svB s l g) (svB s l h)) = F at fl f0 fs fn
  have fb : ∀ m i, BelE m (F i) = True := fun m i => by rw [← hF]; exact fil_bel _ _ _ _
  refine WK.rangeX ((turnsN s l)) [2, 3, 5, 6, 7, 8, 9, 39] [] (fun i => []) (fun i => ((((Sto.none.add (.box [.int .i64 11, .int .i64 v, .list false (encFs [g, h])])).add (.box [.list false (s.map intE), .list false (l.map intE)])).add (.row 1 (List.replicate (turnsN s l) (.bool false)) false)).add (.row 1 (F i) false))) (by omega) (by decide) (by simp only [go_sem, seval, reduceCtorEq, f0, fb]) (by simp only [go_sem, seval, reduceCtorEq, f0, fb]) (by simp only [go_sem, seval, reduceCtorEq, f0, fb, List.take_zero]) (by first | rfl | (simp only [go_sem, seval, reduceCtorEq, f0, fb]; done) | (refine Sto.ext' (by simp only [go_sem, seval, reduceCtorEq, f0, fb]) (fun i => ?_); simp only [go_sem, seval, reduceCtorEq, f0, fb]; repeat' split; all_goals (first | rfl | omega | simp_all))) ?_ ?_
  · intro i hi
    have fl := fl i hi
    have fs := fs i hi
    all_goals clear hb
    all_goals
      have H := And.intro @f0 (And.intro @fb (And.intro @hi (And.intro @fb (And.intro @fl (And.intro @fs @hlr)))))
      refine autoA ?_
      repeat' (first | (refine WK.draw (ops := #[_, _, _, _, _, _, _]) [dq 0 0, dq 0 0, dq 0 0, dq 0 0, dq 0 0, dm, dq 0 0] mixed (by kernel_rfl) ?_; refine autoA ?_) | (refine WK.draw (ops := #[_, _, _, _, _, _, _, _, _, _, _, _]) [dq 0 0, dq 0 0, dq 0 0, dq 0 0, dm, dq 0 0, dq 1 0, dq 0 0, dq 0 0, dq 0 0, dq 0 0, dm] mixed (by kernel_rfl) ?_; refine autoA ?_) | (refine WK.draw (ops := #[_, _, _, _, _, _, _, _, _, _, _, _, _]) [dq 0 0, dq 0 0, dq 0 0, dq 0 0, dq 0 0, dq 0 0, dq 0 0, dq 0 0, dq 0 0, dq 0 0, dq 0 0, dq 0 0, dm] mixed (by kernel_rfl) ?_; refine autoA ?_))
      try exact trivial
      try exact cutA
  · skip
    clear hb
    rw [fn]
    refine WK.freeze 3 (by simp only [go_sem, seval, reduceCtorEq]; rfl) ?_
    have H := And.intro @f0 @fb
    refine autoA ?_
    repeat' (first | (refine WK.draw (ops := #[_, _, _, _, _, _, _]) [dq 0 0, dq 0 0, dq 0 0, dq 0 0, dq 0 0, dm, dq 0 0] mixed (by kernel_rfl) ?_; refine autoA ?_) | (refine WK.draw (ops := #[_, _, _, _, _, _, _, _, _, _, _, _]) [dq 0 0, dq 0 0, dq 0 0, dq 0 0, dm, dq 0 0, dq 1 0, dq 0 0, dq 0 0, dq 0 0, dq 0 0, dm] mixed (by kernel_rfl) ?_; refine autoA ?_) | (refine WK.draw (ops := #[_, _, _, _, _, _, _, _, _, _, _, _, _]) [dq 0 0, dq 0 0, dq 0 0, dq 0 0, dq 0 0, dq 0 0, dq 0 0, dq 0 0, dq 0 0, dq 0 0, dq 0 0, dq 0 0, dm] mixed (by kernel_rfl) ?_; refine autoA ?_))
    try exact trivial
    try exact cut_none _
theorem tbl12 (s l : List Int) (hw : WOK s l) (v : Int) (g h : Fm) (ig : Ctr (C gl) 33 [encF g, encW s l] True (.list false (tabL (turnsN s l) (svB s l g)))) (ih : Ctr (C gl) 33 [encF h, encW s l] True (.list false (tabL (turnsN s l) (svB s l h)))) : PCall (C gl) 33 [encF (.mk 12 v [g, h]), encW s l] (.list false (tabL (turnsN s l) (svB s l (.mk 12 v [g, h])))) := by
  have h1 := hw.pos
  have h2 := hw.few
  have hT : turnsN s l = s.length + 2 * l.length := turnsN_eq s l
  have eq : svB s l (.mk 12 v [g, h]) = fun i => !untB (laterN s l i) (fun i => !svB s l g i) (fun i => !svB s l h i) := funext fun i => (Eq.symm (tb_12 h1 i))
  rw [eq]
  have ct : Ctr (C gl) 32 [encW s l] True (.int .i64 (turnsN s l : Nat)) := ⟨fun _ => turns_ok' s l hw⟩
  have cl : ∀ k : Nat, Ctr (C gl) 44 [encW s l, .int .i64 (k : Int)] (k ≤ turnsN s l) (.list false ((laterN s l k).map natE)) := fun k => ⟨later_ok' s l hw k⟩
  have cn : ∀ p, Ctr (C gl) 43 [.list false (tabL (turnsN s l) p)] True (.list false (tabL (turnsN s l) fun i => !p i)) := fun p => ⟨fun _ => not_ok' _ p (by omega)⟩
  have cu : ∀ (k : Nat) (p q : Nat → Bool), Ctr (C gl) 46 [.list false ((laterN s l k).map natE), .list false (tabL (turnsN s l) p), .list false (tabL (turnsN s l) q)] True (.bool (untB (laterN s l k) p q)) := fun k p q => ⟨fun _ => until_ok' _ _ p q (fun j hj => by obtain ⟨i, _, rfl⟩ := List.mem_map.1 hj; exact pos_lt h1 _) (by rw [later_len]; omega)⟩
  rw [encW_eq] at ct ig ih
  simp only [encW_eq] at cl
  refine pcallX (callX_of b33 (by simp [Tryd.ntmps33]) ?_) (by simp only [AllCl, cl_encF, cl_encW, and_true]) (by rw [cl_list]; exact clE_tab _ _)
  refine W.of ?_
  rw [Tryd.ntmps33]
  simp only [toK, codeOf, Tryd.f33, go_sem, seval, reduceCtorEq]
  have hlr : (List.replicate (turnsN s l) (AV.bool false)).length = turnsN s l := List.length_replicate
  have hb : ((turnsN s l : Nat) : Int) < 100000 := by omega
  have hbn : turnsN s l < 100000 := by omega
  try simp only [go_sem, seval, reduceCtorEq, encW_eq]
  repeat (first | refine WK.blockSeq ?_ | refine WK.blockCond ?_ | refine WK.blockReg ?_ | (refine WK.condT ?_ ?_; (focus (simp only [go_sem, seval, reduceCtorEq, encW_eq]; done))) | (refine WK.condF ?_ ?_; (focus (simp only [go_sem, seval, reduceCtorEq, encW_eq]; done))) | refine WK.seq ?_ | ((first | refine WK.reg ?_ | refine WK.skip ?_ | refine WK.ret ?_ | refine WK.exit ?_); simp only [go_sem, seval, reduceCtorEq, encW_eq]) | ((with_reducible refine And.intro ?_ ?_); omega) | omega)
  refine callK_pureL ((turns_ok' s l hw)) rfl ?_ ?_ ?_ <;> simp only [go_sem, seval, reduceCtorEq, encW_eq]
  try simp only [go_sem, seval, reduceCtorEq, encW_eq]
  repeat (first | refine WK.blockSeq ?_ | refine WK.blockCond ?_ | refine WK.blockReg ?_ | (refine WK.condT ?_ ?_; (focus (simp only [go_sem, seval, reduceCtorEq, encW_eq]; done))) | (refine WK.condF ?_ ?_; (focus (simp only [go_sem, seval, reduceCtorEq, encW_eq]; done))) | refine WK.seq ?_ | ((first | refine WK.reg ?_ | refine WK.skip ?_ | refine WK.ret ?_ | refine WK.exit ?_); simp only [go_sem, seval, reduceCtorEq, encW_eq]) | ((with_reducible refine And.intro ?_ ?_); omega) | omega)
  refine callK_x0 ((notrow_ok' _ 2 (turnsN s l) hbn (by simp only [go_sem, seval, reduceCtorEq, Int.toNat_natCast]) (by simp only [go_sem, seval, reduceCtorEq]))) rfl ?_ ?_ ?_ <;> simp only [go_sem, seval, reduceCtorEq, encW_eq, Int.toNat_natCast]
  have z1 : ((0 : Int) ≤ ((turnsN s l : Nat) : Int)) = True := by simp
  have z2 : (((turnsN s l : Nat) : Int) ≤ ((turnsN s l : Nat) : Int)) = True := by simp
  have z3 : (((turnsN s l : Nat) : Int) * 1 ≤ 281474976710656) = True := by simp; omega
  have z4 : (((turnsN s l : Nat) : Int) ≤ 281474976710656) = True := by simp; omega
  clear hbn hb h2 hT
  have H := And.intro @encW_eq (And.intro @Int.toNat_natCast (And.intro @hlr (And.intro @z1 (And.intro @z2 (And.intro @z3 @z4)))))
  refine autoA ?_
  repeat' (first | (refine WK.draw (ops := #[_, _, _, _, _, _, _]) [dq 0 0, dq 0 0, dq 0 0, dq 0 0, dq 0 0, dm, dq 0 0] mixed (by kernel_rfl) ?_; refine autoA ?_) | (refine WK.draw (ops := #[_, _, _, _, _, _, _, _, _, _, _, _]) [dq 0 0, dq 0 0, dq 0 0, dq 0 0, dm, dq 0 0, dq 1 0, dq 0 0, dq 0 0, dq 0 0, dq 0 0, dm] mixed (by kernel_rfl) ?_; refine autoA ?_) | (refine WK.draw (ops := #[_, _, _, _, _, _, _, _, _, _, _, _, _]) [dq 0 0, dq 0 0, dq 0 0, dq 0 0, dq 0 0, dq 0 0, dq 0 0, dq 0 0, dq 0 0, dq 0 0, dq 0 0, dq 0 0, dm] mixed (by kernel_rfl) ?_; refine autoA ?_))
  try exact trivial
  have hb : turnsN s l < 100000 := by have := hw.few; unfold turnsN; omega
  have fl := fil_len (turnsN s l) (fun i => !untB (laterN s l i) (fun i => !svB s l g i) (fun i => !svB s l h i))
  have f0 := fil_0 (turnsN s l) (fun i => !untB (laterN s l i) (fun i => !svB s l g i) (fun i => !svB s l h i))
  have fs := fil_set (turnsN s l) (fun i => !untB (laterN s l i) (fun i => !svB s l g i) (fun i => !svB s l h i))
  have fn := fil_n (turnsN s l) (fun i => !untB (laterN s l i) (fun i => !svB s l g i) (fun i => !svB s l h i))
  generalize hF : filL (turnsN s l) (fun i => !untB (laterN s l i) (fun i => !svB s l g i) (fun i => !svB s l h i)) = F at fl f0 fs fn
  have fb : ∀ m i, BelE m (F i) = True := fun m i => by rw [← hF]; exact fil_bel _ _ _ _
  refine WK.rangeX ((turnsN s l)) [2, 3, 5, 6, 7, 8, 9, 39] [] (fun i => []) (fun i => ((((Sto.none.add (.box [.int .i64 12, .int .i64 v, .list false (encFs [g, h])])).add (.box [.list false (s.map intE), .list false (l.map intE)])).add (.row 1 (List.replicate (turnsN s l) (.bool false)) false)).add (.row 1 (F i) false))) (by omega) (by decide) (by simp only [go_sem, seval, reduceCtorEq, f0, fb]) (by simp only [go_sem, seval, reduceCtorEq, f0, fb]) (by simp only [go_sem, seval, reduceCtorEq, f0, fb, List.take_zero]) (by first | rfl | (simp only [go_sem, seval, reduceCtorEq, f0, fb]; done) | (refine Sto.ext' (by simp only [go_sem, seval, reduceCtorEq, f0, fb]) (fun i => ?_); simp only [go_sem, seval, reduceCtorEq, f0, fb]; repeat' split; all_goals (first | rfl | omega | simp_all))) ?_ ?_
  · intro i hi
    have fl := fl i hi
    have fs := fs i hi
    all_goals clear hb
    all_goals
      have H := And.intro @f0 (And.intro @fb (And.intro @hi (And.intro @fb (And.intro @fl (And.intro @fs @hlr)))))
      refine autoA ?_
      repeat' (first | (refine WK.draw (ops := #[_, _, _, _, _, _, _]) [dq 0 0, dq 0 0, dq 0 0, dq 0 0, dq 0 0, dm, dq 0 0] mixed (by kernel_rfl) ?_; refine autoA ?_) | (refine WK.draw (ops := #[_, _, _, _, _, _, _, _, _, _, _, _]) [dq 0 0, dq 0 0, dq 0 0, dq 0 0, dm, dq 0 0, dq 1 0, dq 0 0, dq 0 0, dq 0 0, dq 0 0, dm] mixed (by kernel_rfl) ?_; refine autoA ?_) | (refine WK.draw (ops := #[_, _, _, _, _, _, _, _, _, _, _, _, _]) [dq 0 0, dq 0 0, dq 0 0, dq 0 0, dq 0 0, dq 0 0, dq 0 0, dq 0 0, dq 0 0, dq 0 0, dq 0 0, dq 0 0, dm] mixed (by kernel_rfl) ?_; refine autoA ?_))
      try exact trivial
      try exact cutA
  · skip
    clear hb
    rw [fn]
    refine WK.freeze 3 (by simp only [go_sem, seval, reduceCtorEq]; rfl) ?_
    have H := And.intro @f0 @fb
    refine autoA ?_
    repeat' (first | (refine WK.draw (ops := #[_, _, _, _, _, _, _]) [dq 0 0, dq 0 0, dq 0 0, dq 0 0, dq 0 0, dm, dq 0 0] mixed (by kernel_rfl) ?_; refine autoA ?_) | (refine WK.draw (ops := #[_, _, _, _, _, _, _, _, _, _, _, _]) [dq 0 0, dq 0 0, dq 0 0, dq 0 0, dm, dq 0 0, dq 1 0, dq 0 0, dq 0 0, dq 0 0, dq 0 0, dm] mixed (by kernel_rfl) ?_; refine autoA ?_) | (refine WK.draw (ops := #[_, _, _, _, _, _, _, _, _, _, _, _, _]) [dq 0 0, dq 0 0, dq 0 0, dq 0 0, dq 0 0, dq 0 0, dq 0 0, dq 0 0, dq 0 0, dq 0 0, dq 0 0, dq 0 0, dm] mixed (by kernel_rfl) ?_; refine autoA ?_))
    try exact trivial
    try exact cut_none _
theorem tbl13 (s l : List Int) (hw : WOK s l) (v : Int) (g h : Fm) (ig : Ctr (C gl) 33 [encF g, encW s l] True (.list false (tabL (turnsN s l) (svB s l g)))) (ih : Ctr (C gl) 33 [encF h, encW s l] True (.list false (tabL (turnsN s l) (svB s l h)))) : PCall (C gl) 33 [encF (.mk 13 v [g, h]), encW s l] (.list false (tabL (turnsN s l) (svB s l (.mk 13 v [g, h])))) := by
  have h1 := hw.pos
  have h2 := hw.few
  have hT : turnsN s l = s.length + 2 * l.length := turnsN_eq s l
  have eq : svB s l (.mk 13 v [g, h]) = fun i => untB (laterN s l i) (svB s l g) (svB s l h) || !untB (laterN s l i) (fun _ => true) (fun i => !svB s l g i) := funext fun i => (Eq.symm (tb_13 h1 i))
  rw [eq]
  have ct : Ctr (C gl) 32 [encW s l] True (.int .i64 (turnsN s l : Nat)) := ⟨fun _ => turns_ok' s l hw⟩
  have cl : ∀ k : Nat, Ctr (C gl) 44 [encW s l, .int .i64 (k : Int)] (k ≤ turnsN s l) (.list false ((laterN s l k).map natE)) := fun k => ⟨later_ok' s l hw k⟩
  have cn : ∀ p, Ctr (C gl) 43 [.list false (tabL (turnsN s l) p)] True (.list false (tabL (turnsN s l) fun i => !p i)) := fun p => ⟨fun _ => not_ok' _ p (by omega)⟩
  have cu : ∀ (k : Nat) (p q : Nat → Bool), Ctr (C gl) 46 [.list false ((laterN s l k).map natE), .list false (tabL (turnsN s l) p), .list false (tabL (turnsN s l) q)] True (.bool (untB (laterN s l k) p q)) := fun k p q => ⟨fun _ => until_ok' _ _ p q (fun j hj => by obtain ⟨i, _, rfl⟩ := List.mem_map.1 hj; exact pos_lt h1 _) (by rw [later_len]; omega)⟩
  rw [encW_eq] at ct ig ih
  simp only [encW_eq] at cl
  refine pcallX (callX_of b33 (by simp [Tryd.ntmps33]) ?_) (by simp only [AllCl, cl_encF, cl_encW, and_true]) (by rw [cl_list]; exact clE_tab _ _)
  refine W.of ?_
  rw [Tryd.ntmps33]
  simp only [toK, codeOf, Tryd.f33, go_sem, seval, reduceCtorEq]
  have hlr : (List.replicate (turnsN s l) (AV.bool false)).length = turnsN s l := List.length_replicate
  have hb : ((turnsN s l : Nat) : Int) < 100000 := by omega
  have hbn : turnsN s l < 100000 := by omega
  try simp only [go_sem, seval, reduceCtorEq, encW_eq]
  repeat (first | refine WK.blockSeq ?_ | refine WK.blockCond ?_ | refine WK.blockReg ?_ | (refine WK.condT ?_ ?_; (focus (simp only [go_sem, seval, reduceCtorEq, encW_eq]; done))) | (refine WK.condF ?_ ?_; (focus (simp only [go_sem, seval, reduceCtorEq, encW_eq]; done))) | refine WK.seq ?_ | ((first | refine WK.reg ?_ | refine WK.skip ?_ | refine WK.ret ?_ | refine WK.exit ?_); simp only [go_sem, seval, reduceCtorEq, encW_eq]) | ((with_reducible refine And.intro ?_ ?_); omega) | omega)
  refine callK_pureL ((turns_ok' s l hw)) rfl ?_ ?_ ?_ <;> simp only [go_sem, seval, reduceCtorEq, encW_eq]
  try simp only [go_sem, seval, reduceCtorEq, encW_eq]
  repeat (first | refine WK.blockSeq ?_ | refine WK.blockCond ?_ | refine WK.blockReg ?_ | (refine WK.condT ?_ ?_; (focus (simp only [go_sem, seval, reduceCtorEq, encW_eq]; done))) | (refine WK.condF ?_ ?_; (focus (simp only [go_sem, seval, reduceCtorEq, encW_eq]; done))) | refine WK.seq ?_ | ((first | refine WK.reg ?_ | refine WK.skip ?_ | refine WK.ret ?_ | refine WK.exit ?_); simp only [go_sem, seval, reduceCtorEq, encW_eq]) | ((with_reducible refine And.intro ?_ ?_); omega) | omega)
  refine callK_x0 ((notrow_ok' _ 2 (turnsN s l) hbn (by simp only [go_sem, seval, reduceCtorEq, Int.toNat_natCast]) (by simp only [go_sem, seval, reduceCtorEq]))) rfl ?_ ?_ ?_ <;> simp only [go_sem, seval, reduceCtorEq, encW_eq, Int.toNat_natCast]
  have z1 : ((0 : Int) ≤ ((turnsN s l : Nat) : Int)) = True := by simp
  have z2 : (((turnsN s l : Nat) : Int) ≤ ((turnsN s l : Nat) : Int)) = True := by simp
  have z3 : (((turnsN s l : Nat) : Int) * 1 ≤ 281474976710656) = True := by simp; omega
  have z4 : (((turnsN s l : Nat) : Int) ≤ 281474976710656) = True := by simp; omega
  clear hbn hb h2 hT
  have H := And.intro @encW_eq (And.intro @Int.toNat_natCast (And.intro @hlr (And.intro @z1 (And.intro @z2 (And.intro @z3 @z4)))))
  refine autoA ?_
  repeat' (first | (refine WK.draw (ops := #[_, _, _, _, _, _, _]) [dq 0 0, dq 0 0, dq 0 0, dq 0 0, dq 0 0, dm, dq 0 0] mixed (by kernel_rfl) ?_; refine autoA ?_) | (refine WK.draw (ops := #[_, _, _, _, _, _, _, _, _, _, _, _]) [dq 0 0, dq 0 0, dq 0 0, dq 0 0, dm, dq 0 0, dq 1 0, dq 0 0, dq 0 0, dq 0 0, dq 0 0, dm] mixed (by kernel_rfl) ?_; refine autoA ?_) | (refine WK.draw (ops := #[_, _, _, _, _, _, _, _, _, _, _, _, _]) [dq 0 0, dq 0 0, dq 0 0, dq 0 0, dq 0 0, dq 0 0, dq 0 0, dq 0 0, dq 0 0, dq 0 0, dq 0 0, dq 0 0, dm] mixed (by kernel_rfl) ?_; refine autoA ?_))
  try exact trivial
  have hb : turnsN s l < 100000 := by have := hw.few; unfold turnsN; omega
  have fl := fil_len (turnsN s l) (fun i => untB (laterN s l i) (svB s l g) (svB s l h) || !untB (laterN s l i) (fun _ => true) (fun i => !svB s l g i))
  have f0 := fil_0 (turnsN s l) (fun i => untB (laterN s l i) (svB s l g) (svB s l h) || !untB (laterN s l i) (fun _ => true) (fun i => !svB s l g i))
  have fs := fil_set (turnsN s l) (fun i => untB (laterN s l i) (svB s l g) (svB s l h) || !untB (laterN s l i) (fun _ => true) (fun i => !svB s l g i))
  have fn := fil_n (turnsN s l) (fun i => untB (laterN s l i) (svB s l g) (svB s l h) || !untB (laterN s l i) (fun _ => true) (fun i => !svB s l g i))
  generalize hF : filL (turnsN s l) (fun i => untB (laterN s l i) (svB s l g) (svB s l h) || !untB (laterN s l i) (fun _ => true) (fun i => !svB s l g i)) = F at fl f0 fs fn
  have fb : ∀ m i, BelE m (F i) = True := fun m i => by rw [← hF]; exact fil_bel _ _ _ _
  refine WK.rangeX ((turnsN s l)) [2, 3, 5, 6, 7, 8, 9, 39] [] (fun i => []) (fun i => ((((Sto.none.add (.box [.int .i64 13, .int .i64 v, .list false (encFs [g, h])])).add (.box [.list false (s.map intE), .list false (l.map intE)])).add (.row 1 (List.replicate (turnsN s l) (.bool false)) false)).add (.row 1 (F i) false))) (by omega) (by decide) (by simp only [go_sem, seval, reduceCtorEq, f0, fb]) (by simp only [go_sem, seval, reduceCtorEq, f0, fb]) (by simp only [go_sem, seval, reduceCtorEq, f0, fb, List.take_zero]) (by first | rfl | (simp only [go_sem, seval, reduceCtorEq, f0, fb]; done) | (refine Sto.ext' (by simp only [go_sem, seval, reduceCtorEq, f0, fb]) (fun i => ?_); simp only [go_sem, seval, reduceCtorEq, f0, fb]; repeat' split; all_goals (first | rfl | omega | simp_all))) ?_ ?_
  · intro i hi
    have fl := fl i hi
    have fs := fs i hi
    cases ex : untB (laterN s l i) (svB s l g) (svB s l h)
    all_goals simp only [ex, Bool.and_self, Bool.and_true, Bool.and_false, Bool.true_and, Bool.false_and, Bool.or_self, Bool.or_true, Bool.or_false, Bool.true_or, Bool.false_or, Bool.not_true, Bool.not_false, b_ff, b_ft, b_tf, b_tt] at fs
    all_goals clear hb
    all_goals
      have H := And.intro @f0 (And.intro @fb (And.intro @hi (And.intro @fb (And.intro @fl (And.intro @fs (And.intro @ex @hlr))))))
      refine autoA ?_
      repeat' (first | (refine WK.draw (ops := #[_, _, _, _, _, _, _]) [dq 0 0, dq 0 0, dq 0 0, dq 0 0, dq 0 0, dm, dq 0 0] mixed (by kernel_rfl) ?_; refine autoA ?_) | (refine WK.draw (ops := #[_, _, _, _, _, _, _, _, _, _, _, _]) [dq 0 0, dq 0 0, dq 0 0, dq 0 0, dm, dq 0 0, dq 1 0, dq 0 0, dq 0 0, dq 0 0, dq 0 0, dm] mixed (by kernel_rfl) ?_; refine autoA ?_) | (refine WK.draw (ops := #[_, _, _, _, _, _, _, _, _, _, _, _, _]) [dq 0 0, dq 0 0, dq 0 0, dq 0 0, dq 0 0, dq 0 0, dq 0 0, dq 0 0, dq 0 0, dq 0 0, dq 0 0, dq 0 0, dm] mixed (by kernel_rfl) ?_; refine autoA ?_))
      try exact trivial
      try exact cutA
  · skip
    clear hb
    rw [fn]
    refine WK.freeze 3 (by simp only [go_sem, seval, reduceCtorEq]; rfl) ?_
    have H := And.intro @f0 @fb
    refine autoA ?_
    repeat' (first | (refine WK.draw (ops := #[_, _, _, _, _, _, _]) [dq 0 0, dq 0 0, dq 0 0, dq 0 0, dq 0 0, dm, dq 0 0] mixed (by kernel_rfl) ?_; refine autoA ?_) | (refine WK.draw (ops := #[_, _, _, _, _, _, _, _, _, _, _, _]) [dq 0 0, dq 0 0, dq 0 0, dq 0 0, dm, dq 0 0, dq 1 0, dq 0 0, dq 0 0, dq 0 0, dq 0 0, dm] mixed (by kernel_rfl) ?_; refine autoA ?_) | (refine WK.draw (ops := #[_, _, _, _, _, _, _, _, _, _, _, _, _]) [dq 0 0, dq 0 0, dq 0 0, dq 0 0, dq 0 0, dq 0 0, dq 0 0, dq 0 0, dq 0 0, dq 0 0, dq 0 0, dq 0 0, dm] mixed (by kernel_rfl) ?_; refine autoA ?_))
    try exact trivial
    try exact cut_none _
theorem tbl_ok (s l : List Int) (hw : WOK s l) (f : Fm) : okA f → PCall (C gl) 33 [encF f, encW s l] (.list false (tabL (turnsN s l) (svB s l f))) := by
  induction f using Fm.ind with
  | h o v l' ih =>
    intro hA
    have h3 := args012 hA
    have ic : ∀ g ∈ l', Ctr (C gl) 33 [encF g, encW s l] True (.list false (tabL (turnsN s l) (svB s l g))) := fun g hg => ⟨fun _ => ih g hg (okA_sub hA hg)⟩
    simp only [fm_args] at h3
    have hok := hA _ (nodes_self _)
    rcases h3 with rfl | ⟨g, rfl⟩ | ⟨g, h, rfl⟩
    · rw [okNode_eq] at hok
      simp only [Bool.and_eq_true] at hok
      obtain ⟨⟨⟨ho1, ho2⟩, hal⟩, hv⟩ := hok
      replace ho1 := of_decide_eq_true ho1
      replace ho2 := of_decide_eq_true ho2
      replace hal := of_decide_eq_true hal
      have hcs : o = 0 ∨ o = 1 ∨ o = 2 := by
        have hcs : o = 0 ∨ o = 1 ∨ o = 2 ∨ o = 3 ∨ o = 4 ∨ o = 5 ∨ o = 6 ∨ o = 7 ∨ o = 8 ∨ o = 9 ∨ o = 10 ∨ o = 11 ∨ o = 12 ∨ o = 13 := by omega
        rcases hcs with rfl | rfl | rfl | rfl | rfl | rfl | rfl | rfl | rfl | rfl | rfl | rfl | rfl | rfl <;> first | omega | (exfalso; simp [arityL] at hal)
      rcases hcs with rfl | rfl | rfl
      · exact tbl0 s l hw v
      · exact tbl1 s l hw v
      · rw [if_pos rfl, Bool.and_eq_true] at hv
        exact tbl2 s l hw v ⟨of_decide_eq_true hv.1, of_decide_eq_true hv.2⟩
    · have i1 := ic g (by simp)
      rcases ops1 hA with rfl | rfl | rfl | rfl
      · exact tbl3 s l hw v g i1
      · exact tbl8 s l hw v g i1
      · exact tbl9 s l hw v g i1
      · exact tbl10 s l hw v g i1
    · have i1 := ic g (by simp)
      have i2 := ic h (by simp)
      rcases ops2' hA with rfl | rfl | rfl | rfl | rfl | rfl | rfl
      · exact tbl4 s l hw v g h i1 i2
      · exact tbl5 s l hw v g h i1 i2
      · exact tbl6 s l hw v g h i1 i2
      · exact tbl7 s l hw v g h i1 i2
      · exact tbl11 s l hw v g h i1 i2
      · exact tbl12 s l hw v g h i1 i2
      · exact tbl13 s l hw v g h i1 i2
theorem is_ok' (s l : List Int) (hw : WOK s l) (f : Fm) (hA : okA f) (k : Nat) (hk : (k : Int) < 9223372036854775808) : PCall (C gl) 15 [encF f, encW s l, .int .i64 k] (.bool (svB s l f k)) := by
  have h1 := hw.pos
  have h2 := hw.few
  have hT : turnsN s l = s.length + 2 * l.length := turnsN_eq s l
  have ht : Ctr (C gl) 33 [encF f, encW s l] True (.list false (tabL (turnsN s l) (svB s l f))) := ⟨fun _ => tbl_ok s l hw f hA⟩
  have ct : Ctr (C gl) 32 [encW s l] True (.int .i64 (turnsN s l : Nat)) := ⟨fun _ => turns_ok' s l hw⟩
  rw [encW_eq] at ht ct
  refine pcallX (callX_of b15 (by simp [Tryd.ntmps15]) ?_) (by simp only [AllCl, cl_encF, cl_encW, cl_int, and_true]) (.bool _)
  have hs := int_len s
  have hl := int_len l
  refine W.of ?_
  rw [Tryd.ntmps15]
  simp only [toK, codeOf, Tryd.f15, go_sem, seval, reduceCtorEq]
  by_cases hk2 : k < turnsN s l
  · have e1 : decide ((k : Int) ≥ ((turnsN s l : Nat) : Int)) = false := decide_eq_false (by omega)
    have e2 := tab_get (turnsN s l) (svB s l f) k hk2
    clear h2 hk hT
    have H := And.intro @encW_eq (And.intro @hs (And.intro @hl (And.intro @e1 (And.intro @e2 @hk2))))
    refine autoA ?_
    repeat' (first | (refine WK.draw0 (ops := #[_, _, _, _, _, _, _, _, _, _, _, _, _, _]) mixed (by kernel_rfl) ?_; refine autoA ?_))
    try exact trivial
    try exact cut_none _
  · have e1 : decide ((k : Int) ≥ ((turnsN s l : Nat) : Int)) = true := decide_eq_true (by omega)
    have e3 : posN s l k = s.length + (k - s.length) % l.length := by unfold posN; rw [if_neg hk2]
    have hp := pos_lt h1 (s := s) k
    have e2 := tab_get (turnsN s l) (svB s l f) (posN s l k) hp
    rw [svB_pos] at e2
    have w3 : IntKind.i64.wrap ((k : Int) - (s.length : Int)) = ((k - s.length : Nat) : Int) := by rw [wrap_lt (by omega) (by omega)]; omega
    have w4 : IntKind.i64.wrap ((s.length : Int) + (((k - s.length : Nat) : Int)).tmod (l.length : Int)) = ((posN s l k : Nat) : Int) := by
      rw [show (((k - s.length : Nat) : Int)).tmod (l.length : Int) = (((k - s.length) % l.length : Nat) : Int) from rfl, e3]
      have := Nat.mod_lt (k - s.length) h1
      rw [wrap_lt (by omega) (by omega)]; omega
    clear h2 hk e3 hT
    have H := And.intro @encW_eq (And.intro @hs (And.intro @hl (And.intro @e1 (And.intro @e2 (And.intro @hp (And.intro @w3 @w4))))))
    refine autoA ?_
    repeat' (first | (refine WK.draw0 (ops := #[_, _, _, _, _, _, _, _, _, _, _, _, _, _]) mixed (by kernel_rfl) ?_; refine autoA ?_))
    try exact trivial
    try exact cut_none _
end
end Go.Sx
