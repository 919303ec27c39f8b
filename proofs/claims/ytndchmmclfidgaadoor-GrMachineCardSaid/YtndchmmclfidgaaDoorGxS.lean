import Derived.Test.YtndchmmclfidgaaDoorGxJ
set_option maxRecDepth 100000
set_option linter.unusedSimpArgs false
set_option linter.unusedVariables false
set_option linter.unnecessarySimpa false
namespace Go.Sx
open Go Go.Lg Go.Proofs
def Low (n : Nat) (z : BitVec 64) : Prop := ∀ i, n ≤ i → z.getLsbD i = false
theorem Low.eq {n : Nat} {z w : BitVec 64} (hz : Low n z) (hw : Low n w) (h : ∀ i < n, z.getLsbD i = w.getLsbD i) : z = w := by
  apply BitVec.eq_of_getLsbD_eq
  intro i _
  by_cases hi : i < n
  · exact h i hi
  · rw [hz i (by omega), hw i (by omega)]
theorem low_setB (p : Nat → Bool) (n : Nat) : Low n (setB p n) := fun i hi => by
  by_cases h : i < 64
  · rw [setB_get p n i h]; simp; omega
  · exact BitVec.getLsbD_of_ge _ _ (by omega)
theorem low_allB {n : Nat} (hn : n ≤ 64) : Low n (allB n) := fun i hi => by
  by_cases h : i < 64
  · rw [allB_get n i hn h]; simp; omega
  · exact BitVec.getLsbD_of_ge _ _ (by omega)
theorem low_or {n : Nat} {x y : BitVec 64} (hx : Low n x) (hy : Low n y) : Low n (x ||| y) := fun i hi => by simp [hx i hi, hy i hi]
section
variable {c : Ct} {a b : Nat} (hc : CtOK c a b)
include hc
theorem n64 : 2 ^ (a + b) ≤ 64 := pow2_le (a := a + b) 6 (by have := hc.a3; have := hc.b3; omega)
omit hc in
theorem low_ahead (s : BitVec 64) : Low (2 ^ (a + b)) (aheadB (tab c a b) s) := by
  have hg : (tab c a b).good.length = 2 ^ (a + b) := by simp [tab]
  unfold aheadB
  rw [hg]
  exact low_setB _ _
end
def SubB (x y : BitVec 64) : Prop := ∀ i, x.getLsbD i = true → y.getLsbD i = true
def Mono (f : BitVec 64 → BitVec 64) : Prop := ∀ x y, SubB x y → SubB (f x) (f y)
theorem SubB.refl (x : BitVec 64) : SubB x x := fun _ h => h
theorem SubB.or {x y x' y' : BitVec 64} (h : SubB x x') (h' : SubB y y') : SubB (x ||| y) (x' ||| y') := fun i hi => by
  simp only [BitVec.getLsbD_or, Bool.or_eq_true] at hi ⊢
  exact hi.imp (h i) (h' i)
theorem SubB.and {x y x' y' : BitVec 64} (h : SubB x x') (h' : SubB y y') : SubB (x &&& y) (x' &&& y') := fun i hi => by
  simp only [BitVec.getLsbD_and, Bool.and_eq_true] at hi ⊢
  exact ⟨h i hi.1, h' i hi.2⟩
def cnt (p : Nat → Bool) : Nat → Nat
  | 0 => 0
  | n + 1 => cnt p n + (if p n = true then 1 else 0)
theorem cnt_le (p : Nat → Bool) : ∀ n, cnt p n ≤ n
  | 0 => Nat.le_refl _
  | n + 1 => by have := cnt_le p n; simp only [cnt]; split <;> omega
theorem cnt_mono {p q : Nat → Bool} (h : ∀ i, p i = true → q i = true) : ∀ n, cnt p n ≤ cnt q n
  | 0 => Nat.le_refl _
  | n + 1 => by
    have := cnt_mono h n
    simp only [cnt]
    by_cases e : p n = true
    · rw [if_pos e, if_pos (h n e)]; omega
    · rw [if_neg e]; omega
theorem cnt_lt {p q : Nat → Bool} (h : ∀ i, p i = true → q i = true) (j : Nat) (hq : q j = true) (hp : p j = false) : ∀ n, j < n → cnt p n < cnt q n
  | 0, hj => absurd hj (Nat.not_lt_zero _)
  | n + 1, hj => by
    simp only [cnt]
    rcases Nat.lt_succ_iff_lt_or_eq.1 hj with h' | rfl
    · have := cnt_lt h j hq hp n h'
      by_cases e : p n = true
      · rw [if_pos e, if_pos (h n e)]; omega
      · rw [if_neg e]; omega
    · have := cnt_mono h j
      rw [hp, hq]; simp; omega
theorem sub_diff {x y : BitVec 64} (h : SubB x y) (hne : ¬ x = y) : ∃ j, j < 64 ∧ y.getLsbD j = true ∧ x.getLsbD j = false := by
  apply Classical.byContradiction
  intro hn
  apply hne
  apply BitVec.eq_of_getLsbD_eq
  intro i hi
  cases hx : x.getLsbD i with
  | true => exact (h i hx).symm
  | false =>
    cases hy : y.getLsbD i with
    | false => rfl
    | true => exact absurd ⟨i, hi, hy, hx⟩ hn
theorem itB_fix {f : BitVec 64 → BitVec 64} {x : BitVec 64} (h : f x = x) : ∀ m, itB f m x = x
  | 0 => rfl
  | m + 1 => by simp only [itB, h]; exact itB_fix h m
theorem fix_dec {T : Type} {f : BitVec 64 → BitVec 64} (hm : Mono f) (tS : BitVec 64 → T → T) : ∀ (n : Nat) (x : BitVec 64) (t : T), SubB (f x) x → cnt x.getLsbD 64 < n → ∀ m, n ≤ m + 1 → ∃ t', fixR f tS n x t = some (itB f m x, t')
  | 0, x, t, _, hc, _, _ => absurd hc (Nat.not_lt_zero _)
  | n + 1, x, t, hs, hc, m, hnm => by
    simp only [fixR]
    by_cases e : f x = x
    · rw [if_pos e, itB_fix e]; exact ⟨_, rfl⟩
    · rw [if_neg e]
      obtain ⟨j, hj, h1, h2⟩ := sub_diff hs e
      have hlt := cnt_lt hs j h1 h2 64 hj
      obtain ⟨m', rfl⟩ : ∃ m', m = m' + 1 := ⟨m - 1, by omega⟩
      exact fix_dec hm tS n (f x) (tS x t) (hm _ _ hs) (by omega) m' (by omega)
theorem fix_inc {T : Type} {f : BitVec 64 → BitVec 64} (hm : Mono f) (tS : BitVec 64 → T → T) : ∀ (n : Nat) (x : BitVec 64) (t : T), SubB x (f x) → 64 < n + cnt x.getLsbD 64 → ∀ m, n ≤ m + 1 → ∃ t', fixR f tS n x t = some (itB f m x, t')
  | 0, x, t, _, hc, _, _ => absurd hc (by have := cnt_le x.getLsbD 64; omega)
  | n + 1, x, t, hs, hc, m, hnm => by
    simp only [fixR]
    by_cases e : f x = x
    · rw [if_pos e, itB_fix e]; exact ⟨_, rfl⟩
    · rw [if_neg e]
      obtain ⟨j, hj, h1, h2⟩ := sub_diff hs (fun h => e h.symm)
      have hlt := cnt_lt hs j h1 h2 64 hj
      have hle := cnt_le (f x).getLsbD 64
      obtain ⟨m', rfl⟩ : ∃ m', m = m' + 1 := ⟨m - 1, by omega⟩
      exact fix_inc hm tS n (f x) (tS x t) (hm _ _ hs) (by omega) m' (by omega)
theorem itB_mono {f g : BitVec 64 → BitVec 64} (hf : Mono f) (h : ∀ x, SubB (f x) (g x)) : ∀ (m : Nat) (x y : BitVec 64), SubB x y → SubB (itB f m x) (itB g m y)
  | 0, x, y, hs => hs
  | m + 1, x, y, hs => itB_mono hf h m (f x) (g y) fun i hi => h y i (hf x y hs i hi)
theorem ahead_mono (t : Tb) : Mono (aheadB t) := fun x y hs i hi => by
  by_cases h : i < 64
  · unfold aheadB at hi ⊢
    rw [setB_get _ _ _ h] at hi ⊢
    simp only [Bool.and_eq_true, Bool.not_eq_true', List.any_eq_false, Bool.and_eq_true, beq_iff_eq, not_and] at hi ⊢
    refine ⟨hi.1, fun s hs' h1 h2 => hi.2 s hs' h1 ?_⟩
    apply BitVec.eq_of_getLsbD_eq
    intro k hk
    have h3 : (s.2 &&& y).getLsbD k = false := by rw [h2]; simp
    simp only [BitVec.getLsbD_and, BitVec.getLsbD_zero, Bool.and_eq_false_iff] at h3 ⊢
    refine h3.imp id fun h4 => Bool.eq_false_iff.2 fun h5 => ?_
    rw [hs k h5] at h4; cases h4
  · rw [BitVec.getLsbD_of_ge _ _ (by omega)] at hi; cases hi
theorem xStep_mono (t : Tb) (s f : BitVec 64) : Mono (xStep t s f) := fun x y h => SubB.or (.refl _) (SubB.and (SubB.and (.refl _) (ahead_mono t x y h)) (.refl _))
theorem xStep_sure (t : Tb) {s s' : BitVec 64} (f x : BitVec 64) (h : SubB s s') : SubB (xStep t s f x) (xStep t s' f x) := SubB.or h (.refl _)
theorem xF_mono (t : Tb) {s s' : BitVec 64} (f : BitVec 64) (h : SubB s s') : SubB (xF t s f) (xF t s' f) := itB_mono (xStep_mono t s f) (fun x => xStep_sure t f x h) 66 _ _ (.refl _)
theorem foldl_or_mono {A : Type} (f g : A → BitVec 64) (h : ∀ a, SubB (f a) (g a)) : ∀ (l : List A) (x y : BitVec 64), SubB x y → SubB ((l.map f).foldl (· ||| ·) x) ((l.map g).foldl (· ||| ·) y)
  | [], x, y, hs => hs
  | a :: l, x, y, hs => foldl_or_mono f g h l _ _ (SubB.or hs (h a))
theorem yStep_mono2 (t : Tb) {s s' y y' : BitVec 64} (h : SubB s s') (h' : SubB y y') : SubB (yStep t s y) (yStep t s' y') :=
  foldl_or_mono _ _ (fun f => xF_mono t f (SubB.or h (ahead_mono t _ _ h'))) t.je _ _ (.refl _)
theorem zY_mono (t : Tb) {z z' : BitVec 64} (j : BitVec 64) (h : SubB z z') : SubB (zY t z j) (zY t z' j) :=
  itB_mono (fun x y hs => yStep_mono2 t (.refl _) hs) (fun y => yStep_mono2 t (SubB.and (.refl _) (ahead_mono t _ _ h)) (.refl _)) 66 _ _ (.refl _)
theorem foldl_and_mono {A : Type} (f g : A → BitVec 64) (h : ∀ a, SubB (f a) (g a)) : ∀ (l : List A) (x y : BitVec 64), SubB x y → SubB (l.foldl (fun out j => out &&& f j) x) (l.foldl (fun out j => out &&& g j) y)
  | [], x, y, hs => hs
  | a :: l, x, y, hs => foldl_and_mono f g h l _ _ (SubB.and hs (h a))
theorem zStep_mono (t : Tb) : Mono (zStep t) := fun x y h => foldl_and_mono _ _ (fun j => zY_mono t j h) t.js _ _ h
theorem foldl_and_sub {A : Type} (f : A → BitVec 64) : ∀ (l : List A) (x : BitVec 64), SubB (l.foldl (fun out j => out &&& f j) x) x
  | [], x => .refl _
  | a :: l, x => fun i hi => by
    have := foldl_and_sub f l (x &&& f a) i hi
    rw [BitVec.getLsbD_and, Bool.and_eq_true] at this
    exact this.1
theorem zStep_sub (t : Tb) (z : BitVec 64) : SubB (zStep t z) z := foldl_and_sub _ _ _
theorem low_sub {n : Nat} {x : BitVec 64} (hn : n ≤ 64) (h : Low n x) : SubB x (allB n) := fun i hi => by
  by_cases h1 : i < n
  · rw [allB_get n i hn (by omega)]; simp [h1]
  · rw [h i (by omega)] at hi; cases hi
theorem stab_tab {c : Ct} {a b : Nat} (hc : CtOK c a b) : Stab (tab c a b) := by
  have h64 := n64 hc
  have hn : (tab c a b).n = 2 ^ (a + b) := rfl
  refine ⟨fun j z y f => ?_, fun j z => ?_, ?_⟩
  · have hl : Low (2 ^ (a + b)) (xStep (tab c a b) ((j &&& aheadB (tab c a b) z) ||| aheadB (tab c a b) y) f (allB (tab c a b).n)) := by
      unfold xStep
      refine low_or (low_or (fun i hi => ?_) (low_ahead y)) fun i hi => ?_
      · rw [BitVec.getLsbD_and, low_ahead z i hi, Bool.and_false]
      · rw [BitVec.getLsbD_and, hn, low_allB h64 i hi, Bool.and_false]
    obtain ⟨u, h⟩ := fix_dec (xStep_mono (tab c a b) ((j &&& aheadB (tab c a b) z) ||| aheadB (tab c a b) y) f) (fun _ (u : Unit) => u) 67 (allB (tab c a b).n) () (by rw [hn] at hl ⊢; exact low_sub h64 hl) (by have := cnt_le (allB (tab c a b).n).getLsbD 64; omega) 66 (by omega)
    exact h
  · exact fix_inc (fun x y h => yStep_mono2 (tab c a b) (.refl _) h) _ 67 0#64 [] (fun i hi => by simp at hi) (by omega) 66 (by omega)
  · obtain ⟨u, h⟩ := fix_dec (zStep_mono (tab c a b)) (fun _ (u : Unit) => u) 67 (allB (tab c a b).n) () (zStep_sub _ _) (by have := cnt_le (allB (tab c a b).n).getLsbD 64; omega) 66 (by omega)
    exact h
theorem fixR_unit {T : Type} {f : BitVec 64 → BitVec 64} {tS : BitVec 64 → T → T} : ∀ (n : Nat) (x : BitVec 64) (t : T) (r : BitVec 64 × T), fixR f tS n x t = some r → fixR f (fun _ (u : Unit) => u) n x () = some (r.1, ())
  | 0, x, t, r, h => by simp [fixR] at h
  | n + 1, x, t, r, h => by
    simp only [fixR] at h ⊢
    split at h
    · rename_i e
      simp only [Option.some.injEq] at h
      rw [if_pos e, ← h]
    · rename_i e
      rw [if_neg e]
      exact fixR_unit n _ _ r h
def fixV (f : BitVec 64 → BitVec 64) (x : BitVec 64) : BitVec 64 := match fixR f (fun _ (u : Unit) => u) 67 x () with
  | some r => r.1
  | none => 0#64
theorem fixV_eq {f : BitVec 64 → BitVec 64} {x y : BitVec 64} (h : fixR f (fun _ (u : Unit) => u) 67 x () = some (y, ())) : fixV f x = y := by
  unfold fixV; rw [h]
def xV (t : Tb) (s f : BitVec 64) : BitVec 64 := fixV (xStep t s f) (allB t.n)
def yV (t : Tb) (z j y : BitVec 64) : BitVec 64 := orB (t.je.map (xV t ((j &&& aheadB t z) ||| aheadB t y)))
def zyV (t : Tb) (z j : BitVec 64) : BitVec 64 := fixV (yV t z j) 0#64
def zV (t : Tb) (z : BitVec 64) : BitVec 64 := t.js.foldl (fun out j => out &&& zyV t z j) z
def wonV (t : Tb) : BitVec 64 := fixV (zV t) (allB t.n)
theorem yV_eq {t : Tb} (h : Stab t) (z j : BitVec 64) : yV t z j = yStep t (j &&& aheadB t z) := by
  funext y
  unfold yV yStep
  congr 2
  funext f
  exact fixV_eq (h.x j z y f)
theorem zyV_eq {t : Tb} (h : Stab t) (z j : BitVec 64) : zyV t z j = zY t z j := by
  unfold zyV
  rw [yV_eq h]
  obtain ⟨lv, e⟩ := h.y j z
  exact fixV_eq (fixR_unit _ _ _ _ e)
theorem zV_eq {t : Tb} (h : Stab t) : zV t = zStep t := by
  funext z
  unfold zV zStep
  congr 1
  funext out j
  rw [zyV_eq h]
theorem wonV_eq {t : Tb} (h : Stab t) : wonV t = wonB t := by
  unfold wonV
  rw [zV_eq h]
  exact fixV_eq h.z
theorem ok1 : CtOK (exC ex1) 1 1 := ⟨rfl, rfl, by omega, by omega, by simp [exC, WfH, WfHL], by simp [exC, WfH, WfHL], by simp [exC, WfH, WfHL], by simp [exC, ex1, WfH, WfHL, Fm.var], by simp [exC, WfH, WfHL], by simp [exC, WfH, WfHL], by simp [exC], by simp [exC]⟩
theorem ok2 : CtOK (exC ex2) 1 1 := ⟨rfl, rfl, by omega, by omega, by simp [exC, WfH, WfHL], by simp [exC, WfH, WfHL], by simp [exC, WfH, WfHL], by simp [exC, ex2, WfH, WfHL, Fm.var], by simp [exC, WfH, WfHL], by simp [exC, WfH, WfHL], by simp [exC], by simp [exC]⟩
theorem shrt1 : ShrtC (exC ex1) := by
  refine ⟨?_, ?_, ?_, ?_, ?_, ?_, ?_, ?_⟩ <;> simp [exC, ex1, Shrt, ShrtL]
theorem shrt2 : ShrtC (exC ex2) := by
  refine ⟨?_, ?_, ?_, ?_, ?_, ?_, ?_, ?_⟩ <;> simp [exC, ex2, Shrt, ShrtL]
theorem val1 : validC (exC ex1) = true := by kernel_rfl
theorem val2 : validC (exC ex2) = true := by kernel_rfl
theorem kv1 : keptB (exC ex1) 1 1 (wonV (tab (exC ex1) 1 1)) = true := by kernel_rfl
theorem kv2 : keptB (exC ex2) 1 1 (wonV (tab (exC ex2) 1 1)) = false := by kernel_rfl
section
variable {gl : GL} (har : gl.at' 0 = arityA)
include har
theorem awake_yes : PCall (C gl) 16 [] (.bool true) := by
  refine awake_ok ?_ ?_
  · have := gkept_yes (gl := gl) har (exC ex1) 1 1 shrt1 val1 ok1 (stab_tab ok1)
    rwa [← wonV_eq (stab_tab ok1), kv1] at this
  · have := gkept_yes (gl := gl) har (exC ex2) 1 1 shrt2 val2 ok2 (stab_tab ok2)
    rwa [← wonV_eq (stab_tab ok2), kv2] at this
end
end Go.Sx
