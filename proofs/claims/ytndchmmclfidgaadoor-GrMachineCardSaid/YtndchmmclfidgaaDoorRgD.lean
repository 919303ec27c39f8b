import Derived.Test.YtndchmmclfidgaaDoorRfP
set_option maxRecDepth 100000
set_option linter.unusedSimpArgs false
set_option linter.unusedVariables false
set_option linter.unnecessarySimpa false
namespace Go.Sx
open Go Go.Lg Go.Proofs
theorem won_fix {t : Tb} (h : Stab t) : zStep t (wonB t) = wonB t := fixR_fix _ _ _ _ h.z
theorem fold_and {g : BitVec 64 → BitVec 64} {i : Nat} : ∀ {l : List (BitVec 64)} {w : BitVec 64}, (l.foldl (fun out j => out &&& g j) w).getLsbD i = true → w.getLsbD i = true ∧ ∀ j ∈ l, (g j).getLsbD i = true
  | [], w, h => ⟨h, fun j hj => by cases hj⟩
  | j :: l, w, h => by
    rw [List.foldl_cons] at h
    obtain ⟨h1, h2⟩ := fold_and h
    rw [BitVec.getLsbD_and, Bool.and_eq_true] at h1
    exact ⟨h1.1, fun k hk => (List.mem_cons.1 hk).elim (fun e => e ▸ h1.2) (h2 k)⟩
theorem z_sub_y {t : Tb} (h : Stab t) {j : BitVec 64} (hj : j ∈ t.js) : SubB (wonB t) (zY t (wonB t) j) := fun i hi => by
  rw [← won_fix h] at hi
  exact (fold_and hi).2 j hj
def yL (t : Tb) (z j : BitVec 64) : Nat → BitVec 64
  | 0 => 0#64
  | i + 1 => yStep t (j &&& aheadB t z) (yL t z j i)
def xL (t : Tb) (z j f : BitVec 64) (i : Nat) : BitVec 64 := xF t ((j &&& aheadB t z) ||| aheadB t (yL t z j i)) f
theorem itB_succ (f : BitVec 64 → BitVec 64) : ∀ (n : Nat) (x : BitVec 64), itB f (n + 1) x = f (itB f n x)
  | 0, _ => rfl
  | n + 1, x => itB_succ f n (f x)
theorem yL_it (t : Tb) (z j : BitVec 64) : ∀ i, yL t z j i = itB (yStep t (j &&& aheadB t z)) i 0#64
  | 0 => rfl
  | i + 1 => by rw [itB_succ, ← yL_it]; rfl
theorem yL_succ {t : Tb} {z j : BitVec 64} {i l : Nat} : (yL t z j (i + 1)).getLsbD l = true ↔ ∃ f ∈ t.je, (xL t z j f i).getLsbD l = true := by
  show (yStep t (j &&& aheadB t z) (yL t z j i)).getLsbD l = true ↔ _
  unfold yStep
  rw [orB_get]
  exact ⟨fun ⟨y, hy, h⟩ => by obtain ⟨f, hf, rfl⟩ := List.mem_map.1 hy; exact ⟨f, hf, h⟩, fun ⟨f, hf, h⟩ => ⟨_, List.mem_map.2 ⟨f, hf, rfl⟩, h⟩⟩
theorem xL_fix {t : Tb} (h : Stab t) (z j f : BitVec 64) (i : Nat) : xStep t ((j &&& aheadB t z) ||| aheadB t (yL t z j i)) f (xL t z j f i) = xL t z j f i := x_fix h j z _ f
theorem x_get {t : Tb} {s f x : BitVec 64} {l : Nat} : (xStep t s f x).getLsbD l = true ↔ s.getLsbD l = true ∨ (l < 64 ∧ f.getLsbD l = false ∧ (aheadB t x).getLsbD l = true ∧ (allB t.n).getLsbD l = true) := by
  unfold xStep
  rw [BitVec.getLsbD_or, Bool.or_eq_true, BitVec.getLsbD_and, BitVec.getLsbD_and, BitVec.getLsbD_not, Bool.and_eq_true, Bool.and_eq_true, Bool.and_eq_true, decide_eq_true_eq, Bool.not_eq_true']
  constructor
  · rintro (h | ⟨⟨⟨h1, h2⟩, h3⟩, h4⟩)
    · exact .inl h
    · exact .inr ⟨h1, h2, h3, h4⟩
  · rintro (h | ⟨h1, h2, h3, h4⟩)
    · exact .inl h
    · exact .inr ⟨⟨⟨h1, h2⟩, h3⟩, h4⟩
theorem xL_get {t : Tb} (h : Stab t) {z j f : BitVec 64} {i l : Nat} : (xL t z j f i).getLsbD l = true → (j.getLsbD l = true ∧ (aheadB t z).getLsbD l = true) ∨ (aheadB t (yL t z j i)).getLsbD l = true ∨ (f.getLsbD l = false ∧ (aheadB t (xL t z j f i)).getLsbD l = true) := fun hl => by
  rw [← xL_fix h, x_get, BitVec.getLsbD_or, Bool.or_eq_true, BitVec.getLsbD_and, Bool.and_eq_true] at hl
  rcases hl with (hl | hl) | hl
  · exact .inl hl
  · exact .inr (.inl hl)
  · exact .inr (.inr ⟨hl.2.1, hl.2.2.1⟩)
theorem xL_ahead {t : Tb} (h : Stab t) {z j f : BitVec 64} {i l : Nat} (hl : (aheadB t (yL t z j i)).getLsbD l = true) : (xL t z j f i).getLsbD l = true := by
  rw [← xL_fix h, x_get, BitVec.getLsbD_or, hl, Bool.or_true]
  exact .inl rfl
theorem yL_mono {t : Tb} {z j : BitVec 64} : ∀ i, SubB (yL t z j i) (yL t z j (i + 1))
  | 0 => fun l hl => by
    have hl : (0#64).getLsbD l = true := hl
    rw [BitVec.getLsbD_zero] at hl; cases hl
  | i + 1 => yStep_mono2 t (.refl _) (yL_mono i)
theorem yL_le {t : Tb} {z j : BitVec 64} {i : Nat} : ∀ {k}, i ≤ k → SubB (yL t z j i) (yL t z j k)
  | 0, h => by rw [Nat.le_zero.1 h]; exact .refl _
  | k + 1, h => by
    rcases Nat.le_succ_iff.1 h with h | h
    · exact fun l hl => yL_mono k l (yL_le h l hl)
    · rw [h]; exact .refl _
theorem yL_zY {t : Tb} {z j : BitVec 64} : yL t z j 66 = zY t z j := by rw [yL_it]; rfl
theorem yL_sub {t : Tb} (h : Stab t) {z j : BitVec 64} (i : Nat) : SubB (yL t z j i) (zY t z j) := by
  rcases Nat.le_total i 66 with hi | hi
  · rw [← yL_zY]; exact yL_le hi
  · have e : ∀ k, yL t z j (66 + k) = zY t z j := by
      intro k
      induction k with
      | zero => exact yL_zY
      | succ k ih =>
        show yStep t (j &&& aheadB t z) (yL t z j (66 + k)) = _
        rw [ih]; exact y_fix h z j
    rw [show i = 66 + (i - 66) by omega, e]; exact .refl _
theorem y_cross {t : Tb} (h : Stab t) (hA : ∀ s, SubB (aheadB t s) (allB t.n)) {z j k : BitVec 64} (hz : SubB z (zY t z k)) : ∀ i, SubB (yL t z j i) (zY t z k)
  | 0 => fun l hl => by
    have hl : (0#64).getLsbD l = true := hl
    rw [BitVec.getLsbD_zero] at hl; cases hl
  | i + 1 => fun l hl => by
    have ih := y_cross h hA hz i (j := j)
    obtain ⟨f, hf, hx⟩ := yL_succ.1 hl
    refine x_sub_y h z k f hf l ?_
    refine post_x (w := xL t z j f i) (fun m hm => ?_) (fun m hm => ?_) l hx
    · rcases xL_get h hm with h1 | h1 | h1
      · exact hA _ m h1.2
      · exact hA _ m h1
      · exact hA _ m h1.2
    · rw [x_get, BitVec.getLsbD_or, Bool.or_eq_true]
      rcases xL_get h hm with h1 | h1 | h1
      · exact .inl (.inr (ahead_mono t _ _ hz m h1.2))
      · exact .inl (.inr (ahead_mono t _ _ ih m h1))
      · refine .inr ⟨?_, h1.1, h1.2, hA _ m h1.2⟩
        exact (Nat.lt_or_ge m 64).elim id fun h2 => by rw [BitVec.getLsbD_of_ge _ _ h2] at hm; cases hm
theorem y_all {t : Tb} (h : Stab t) (hA : ∀ s, SubB (aheadB t s) (allB t.n)) (z j : BitVec 64) : SubB (zY t z j) (allB t.n) := fun i hi => by
  have h1 := y_one h z j i hi
  rw [BitVec.getLsbD_or, Bool.or_eq_true, BitVec.getLsbD_and, Bool.and_eq_true] at h1
  exact h1.elim (fun h1 => hA _ i h1.2) (hA _ i)
theorem y_won {t : Tb} (h : Stab t) (hA : ∀ s, SubB (aheadB t s) (allB t.n)) {j : BitVec 64} (hj : j ∈ t.js) : SubB (zY t (wonB t) j) (wonB t) := by
  refine post_won (y_all h hA _ _) fun i hi => ?_
  refine and_fold _ i _ _ hi fun k hk => ?_
  refine zY_mono t k (z_sub_y h hj) i ?_
  have := y_cross h hA (z_sub_y h hk) 66 (j := j)
  rw [yL_zY] at this
  exact this i hi
def lvE (t : Tb) (z j : BitVec 64) (i : Nat) : BitVec 64 × List (BitVec 64) := (yL t z j i, t.je.map fun f => xL t z j f i)
theorem lv_fix {t : Tb} {z j : BitVec 64} : ∀ (n k : Nat) (Y : BitVec 64) (lv : List (BitVec 64 × List (BitVec 64))), fixR (yStep t (j &&& aheadB t z)) (lStep t (j &&& aheadB t z)) n (yL t z j k) ((List.range k).map (lvE t z j)) = some (Y, lv) →
    ∃ m, lv = (List.range (m + 1)).map (lvE t z j) ∧ yL t z j (m + 1) = yL t z j m ∧ m < n + k
  | 0, k, Y, lv, h => by simp [fixR] at h
  | n + 1, k, Y, lv, h => by
    have e : lStep t (j &&& aheadB t z) (yL t z j k) ((List.range k).map (lvE t z j)) = (List.range (k + 1)).map (lvE t z j) := by
      rw [List.range_succ, List.map_append]; rfl
    unfold fixR at h
    rw [e] at h
    split at h
    · rename_i e2
      simp only [Option.some.injEq, Prod.mk.injEq] at h
      exact ⟨k, h.2.symm, e2, by omega⟩
    · obtain ⟨m, h1, h2, h3⟩ := lv_fix n (k + 1) Y lv h
      exact ⟨m, h1, h2, by omega⟩
theorem lv_of {t : Tb} (h : Stab t) (z j : BitVec 64) : ∃ m, fixR (yStep t (j &&& aheadB t z)) (lStep t (j &&& aheadB t z)) 67 0#64 [] = some (zY t z j, (List.range (m + 1)).map (lvE t z j)) ∧ yL t z j (m + 1) = yL t z j m ∧ m < 67 := by
  obtain ⟨lv, hl⟩ := h.y j z
  obtain ⟨m, h1, h2, h3⟩ := lv_fix 67 0 _ _ hl
  exact ⟨m, by rw [← h1]; exact hl, h2, h3⟩
open Classical in
noncomputable def mL (t : Tb) (z j : BitVec 64) : Nat := if h : Stab t then Classical.choose (lv_of h z j) else 0
theorem mL_spec {t : Tb} (h : Stab t) (z j : BitVec 64) : fixR (yStep t (j &&& aheadB t z)) (lStep t (j &&& aheadB t z)) 67 0#64 [] = some (zY t z j, (List.range (mL t z j + 1)).map (lvE t z j)) ∧ yL t z j (mL t z j + 1) = yL t z j (mL t z j) ∧ mL t z j < 67 := by
  unfold mL
  rw [dif_pos h]
  exact Classical.choose_spec (lv_of h z j)
theorem yL_stay {t : Tb} {z j : BitVec 64} {m : Nat} (h : yL t z j (m + 1) = yL t z j m) : ∀ k, yL t z j (m + k) = yL t z j m
  | 0 => rfl
  | k + 1 => by
    have ih := yL_stay h k
    show yStep t (j &&& aheadB t z) (yL t z j (m + k)) = _
    rw [ih]; exact h
theorem yL_top {t : Tb} (h : Stab t) (z j : BitVec 64) : yL t z j (mL t z j) = zY t z j := by
  obtain ⟨_, h2, h3⟩ := mL_spec h z j
  rw [← yL_zY]
  have := yL_stay h2 (66 - mL t z j)
  rw [show mL t z j + (66 - mL t z j) = 66 by omega] at this
  exact this.symm
def fstN (p : Nat → Bool) (n : Nat) : Option Nat := (List.range n).find? p
theorem fst_some {p : Nat → Bool} {n k : Nat} : fstN p n = some k ↔ k < n ∧ p k = true ∧ ∀ j, j < k → p j = false := by
  unfold fstN
  rw [List.find?_range_eq_some]
  simp only [List.mem_range, Bool.not_eq_true']
  exact ⟨fun ⟨h1, h2, h3⟩ => ⟨h2, h1, h3⟩, fun ⟨h1, h2, h3⟩ => ⟨h2, h1, h3⟩⟩
theorem fst_none {p : Nat → Bool} {n : Nat} : fstN p n = none ↔ ∀ k, k < n → p k = false := by
  unfold fstN
  rw [List.find?_eq_none]
  simp only [List.mem_range, Bool.not_eq_true]
theorem fst_ex {p : Nat → Bool} {n k : Nat} (hk : k < n) (hp : p k = true) : ∃ i, fstN p n = some i ∧ i ≤ k := by
  cases e : fstN p n with
  | none => rw [fst_none.1 e k hk] at hp; cases hp
  | some i =>
    refine ⟨i, rfl, ?_⟩
    refine Nat.le_of_not_lt fun h => ?_
    rw [(fst_some.1 e).2.2 k h] at hp; cases hp
end Go.Sx
namespace Go.Sx
open Go Go.Lg Go.Proofs
def candX (t : Tb) (l : Nat) (f x : BitVec 64) : Bool := x.getLsbD l && (!f.getLsbD l && (aheadB t x).getLsbD l)
def fiL (t : Tb) (z j : BitVec 64) (l i : Nat) : Option Nat := fstN (fun k => candX t l (t.je.getD k 0#64) (xL t z j (t.je.getD k 0#64) i)) t.je.length
def lvT (t : Tb) (z j : BitVec 64) (l i : Nat) : Option (BitVec 64) := if (aheadB t (yL t z j i)).getLsbD l = true then some (yL t z j i) else (fiL t z j l i).map fun k => xL t z j (t.je.getD k 0#64) i
def tgL (t : Tb) (z j : BitVec 64) (l m : Nat) : Option (BitVec 64) := (fstN (fun i => (lvT t z j l i).isSome) m).bind (lvT t z j l)
def metB (t : Tb) (z j : BitVec 64) (l : Nat) : Bool := j.getLsbD l && (aheadB t z).getLsbD l
noncomputable def tgt (t : Tb) (z : BitVec 64) (l g : Nat) : BitVec 64 × Nat :=
  if metB t z (t.js.getD g 0#64) l = true then (z, (g + 1) % t.js.length) else ((tgL t z (t.js.getD g 0#64) l (mL t z (t.js.getD g 0#64) + 1)).getD (allB t.n), g)
def rkL (t : Tb) (z j : BitVec 64) (l : Nat) : Nat := (fstN (fun i => (yL t z j (i + 1)).getLsbD l) 67).getD 67
def fiN (t : Tb) (z j : BitVec 64) (l : Nat) : Nat := if (metB t z j l || (aheadB t (yL t z j (rkL t z j l))).getLsbD l) = true then 0 else 1 + (fiL t z j l (rkL t z j l)).getD 0
theorem rk_lt (t : Tb) (z j : BitVec 64) (l : Nat) : rkL t z j l < 68 := by
  unfold rkL
  cases e : fstN (fun i => (yL t z j (i + 1)).getLsbD l) 67 with
  | none => simp
  | some i => have := (fst_some.1 e).1; simp only [Option.getD_some]; omega
theorem fi_lt (t : Tb) (z j : BitVec 64) (l : Nat) : fiN t z j l < t.je.length + 2 := by
  unfold fiN
  split
  · omega
  · cases e : fiL t z j l (rkL t z j l) with
    | none => simp only [Option.getD_none]; omega
    | some i => have := (fst_some.1 e).1; simp only [Option.getD_some]; omega
theorem rk_le {t : Tb} {z j : BitVec 64} {l i : Nat} (h : (yL t z j (i + 1)).getLsbD l = true) (hi : i < 67) : rkL t z j l ≤ i := by
  obtain ⟨k, e, hk⟩ := fst_ex (p := fun i => (yL t z j (i + 1)).getLsbD l) hi h
  unfold rkL
  rw [e]; exact hk
theorem lv_some {t : Tb} (h : Stab t) (hne : 0 < t.je.length) {z j : BitVec 64} {l i : Nat} (hm : metB t z j l = false) : (lvT t z j l i).isSome = (yL t z j (i + 1)).getLsbD l := by
  rw [Bool.eq_iff_iff]
  constructor
  · intro hs
    unfold lvT at hs
    split at hs
    · rename_i ha
      exact yL_succ.2 ⟨t.je[0], List.getElem_mem hne, xL_ahead h ha⟩
    · rw [Option.isSome_map] at hs
      obtain ⟨k, hk⟩ := Option.isSome_iff_exists.1 hs
      obtain ⟨h1, h2, _⟩ := fst_some.1 hk
      unfold candX at h2
      rw [Bool.and_eq_true] at h2
      refine yL_succ.2 ⟨t.je.getD k 0#64, ?_, h2.1⟩
      rw [List.getD_eq_getElem?_getD, List.getElem?_eq_getElem h1]; exact List.getElem_mem h1
  · intro hy
    obtain ⟨f, hf, hx⟩ := yL_succ.1 hy
    unfold lvT
    split
    · rfl
    · rename_i ha
      rcases xL_get h hx with h1 | h1 | h1
      · unfold metB at hm
        rw [h1.1, h1.2] at hm; cases hm
      · exact absurd h1 ha
      · obtain ⟨k, hk, rfl⟩ := List.getElem_of_mem hf
        obtain ⟨k', e, _⟩ := fst_ex (p := fun k => candX t l (t.je.getD k 0#64) (xL t z j (t.je.getD k 0#64) i)) (n := t.je.length) (k := k) hk (by
          simp only [candX, List.getD_eq_getElem?_getD, List.getElem?_eq_getElem hk, Option.getD_some]
          rw [hx, h1.1, h1.2]; rfl)
        unfold fiL
        rw [e]; rfl
theorem tgt_go {t : Tb} (h : Stab t) (hne : 0 < t.je.length) {z : BitVec 64} {l g : Nat} (hl : (zY t z (t.js.getD g 0#64)).getLsbD l = true) (hm : metB t z (t.js.getD g 0#64) l = false) :
    ∃ to, tgt t z l g = (to, g) ∧ (aheadB t to).getLsbD l = true ∧ rkL t z (t.js.getD g 0#64) l < 67 ∧ ((to = yL t z (t.js.getD g 0#64) (rkL t z (t.js.getD g 0#64) l)) ∨
      ∃ k, fiN t z (t.js.getD g 0#64) l = k + 1 ∧ k < t.je.length ∧ to = xL t z (t.js.getD g 0#64) (t.je.getD k 0#64) (rkL t z (t.js.getD g 0#64) l) ∧ (t.je.getD k 0#64).getLsbD l = false) := by
  generalize hj : t.js.getD g 0#64 = j at *
  obtain ⟨_, _, hm67⟩ := mL_spec h z j
  have hy : (yL t z j (mL t z j + 1)).getLsbD l = true := yL_mono _ l (by rw [yL_top h]; exact hl)
  have e1 : (fun i => (lvT t z j l i).isSome) = fun i => (yL t z j (i + 1)).getLsbD l := funext fun i => lv_some h hne hm
  obtain ⟨r, hr, hrm⟩ := fst_ex (p := fun i => (yL t z j (i + 1)).getLsbD l) (n := mL t z j + 1) (Nat.lt_succ_self _) hy
  have hr' := fst_some.1 hr
  have hrk : rkL t z j l = r := by
    unfold rkL
    have : fstN (fun i => (yL t z j (i + 1)).getLsbD l) 67 = some r := fst_some.2 ⟨by omega, hr'.2⟩
    rw [this]; rfl
  have hsome : (lvT t z j l r).isSome = true := by rw [lv_some h hne hm]; exact hr'.2.1
  have hT : tgt t z l g = ((lvT t z j l r).getD (allB t.n), g) := by
    unfold tgt
    rw [hj, hm, if_neg (by decide)]
    unfold tgL
    rw [e1, hr]; rfl
  rw [hrk, hT]
  refine ⟨_, rfl, ?_⟩
  unfold fiN
  rw [hm, hrk, Bool.false_or]
  unfold lvT at hsome ⊢
  split at hsome
  · rename_i ha
    rw [if_pos ha]
    exact ⟨ha, by omega, .inl rfl⟩
  · rename_i ha
    rw [if_neg ha, if_neg ha]
    rw [Option.isSome_map] at hsome
    obtain ⟨k, hk⟩ := Option.isSome_iff_exists.1 hsome
    rw [hk]
    obtain ⟨h1, h2, _⟩ := fst_some.1 hk
    simp only [candX, Bool.and_eq_true, Bool.not_eq_true'] at h2
    exact ⟨h2.2.2, by omega, .inr ⟨k, by simp only [Option.getD_some]; omega, h1, rfl, h2.2.1⟩⟩
theorem rk_down {t : Tb} {z j : BitVec 64} {r l : Nat} (hr : r < 67) (h : (yL t z j r).getLsbD l = true) : rkL t z j l < r := by
  cases r with
  | zero =>
    have h : (0#64).getLsbD l = true := h
    rw [BitVec.getLsbD_zero] at h; cases h
  | succ r => have := rk_le h (by omega); omega
theorem rk_stay {t : Tb} {z j : BitVec 64} {r l k : Nat} (hr : r < 67) (hk : k < t.je.length) (h : (xL t z j (t.je.getD k 0#64) r).getLsbD l = true) : rkL t z j l ≤ r :=
  rk_le (yL_succ.2 ⟨_, by rw [List.getD_eq_getElem?_getD, List.getElem?_eq_getElem hk]; exact List.getElem_mem hk, h⟩) hr
theorem fi_stay {t : Tb} (hs : Stab t) {z j : BitVec 64} {l k : Nat} (hk : k < t.je.length) (h : (xL t z j (t.je.getD k 0#64) (rkL t z j l)).getLsbD l = true) : fiN t z j l ≤ k + 1 := by
  unfold fiN
  split
  · omega
  · rename_i hn
    simp only [Bool.or_eq_true, not_or, Bool.not_eq_true] at hn
    rcases xL_get hs h with h1 | h1 | h1
    · have := hn.1
      unfold metB at this
      rw [h1.1, h1.2] at this; cases this
    · rw [hn.2] at h1; cases h1
    · obtain ⟨k', e, hk'⟩ := fst_ex (p := fun k => candX t l (t.je.getD k 0#64) (xL t z j (t.je.getD k 0#64) (rkL t z j l))) (n := t.je.length) (k := k) hk (by
        simp only [candX]
        rw [h, h1.1, h1.2]; rfl)
      unfold fiL
      rw [e]
      simp only [Option.getD_some]; omega
def lowB (x : BitVec 64) : Nat := (fstN x.getLsbD 64).getD 64
theorem low_in {x : BitVec 64} (h : nz x = true) : lowB x < 64 ∧ x.getLsbD (lowB x) = true := by
  obtain ⟨i, hi⟩ := (nz_iff x).1 h
  have h64 : i < 64 := (Nat.lt_or_ge i 64).elim id fun h2 => by rw [BitVec.getLsbD_of_ge _ _ h2] at hi; cases hi
  obtain ⟨k, e, _⟩ := fst_ex (p := x.getLsbD) h64 hi
  unfold lowB
  rw [e]
  exact ⟨(fst_some.1 e).1, (fst_some.1 e).2.1⟩
theorem step_get {ss : Fm} {a l i k : Nat} : ∀ {m : Nat}, (∀ o < m, i + o * 2 ^ a < 64) → (stepB ss a l i m).getLsbD k = true → ∃ o, o < m ∧ k = i + o * 2 ^ a ∧ holdsF l (k : Int) ss = true
  | 0, _, h => by simp [stepB] at h
  | m + 1, hb, h => by
    have ih := fun h => (step_get (m := m) (fun o ho => hb o (by omega)) h).elim fun o h => (⟨o, by omega, h.2⟩ : ∃ o, o < m + 1 ∧ k = i + o * 2 ^ a ∧ holdsF l (k : Int) ss = true)
    simp only [stepB] at h
    split at h
    · rename_i hh
      rw [BitVec.getLsbD_or, Bool.or_eq_true] at h
      rcases h with h | h
      · exact ih h
      · rw [bit_get _ _ (hb m (by omega)), decide_eq_true_eq] at h
        subst h
        exact ⟨m, by omega, rfl, hh⟩
    · exact ih h
theorem first_get {c : Ct} {a i k : Nat} {z : BitVec 64} : ∀ {m : Nat}, (∀ o < m, i + o * 2 ^ a < 64) → (firstB c a i z m).getLsbD k = true → ∃ o, o < m ∧ k = i + o * 2 ^ a ∧ z.getLsbD k = true ∧ holdsF (k : Int) 0 c.is = true
  | 0, _, h => by simp [firstB] at h
  | m + 1, hb, h => by
    have ih := fun h => (first_get (m := m) (fun o ho => hb o (by omega)) h).elim fun o h => (⟨o, by omega, h.2⟩ : ∃ o, o < m + 1 ∧ k = i + o * 2 ^ a ∧ z.getLsbD k = true ∧ holdsF (k : Int) 0 c.is = true)
    simp only [firstB] at h
    split at h
    · rename_i hh
      rw [Bool.and_eq_true] at hh
      rw [BitVec.getLsbD_or, Bool.or_eq_true] at h
      rcases h with h | h
      · exact ih h
      · rw [bit_get _ _ (hb m (by omega)), decide_eq_true_eq] at h
        subst h
        exact ⟨m, by omega, rfl, hh⟩
    · exact ih h
end Go.Sx
namespace Go.Sx
open Go Go.Lg Go.Proofs
structure Pl where
  bg : Bool
  fr : Bool
  lt : Nat
  gl : Nat
def Pl.free : Pl := ⟨false, true, 0, 0⟩
def Pl.begin : Pl := ⟨true, false, 0, 0⟩
noncomputable def ltsP (c : Ct) (a b : Nat) (z : BitVec 64) (p : Pl) (i : Nat) : BitVec 64 × Bool :=
  if p.bg = true then firstR c a b i z else if p.fr = true then (0#64, true) else (stepB c.ss a p.lt i (2 ^ b) &&& (tgt (tab c a b) z p.lt p.gl).1, !holdsF p.lt i c.se)
noncomputable def goalP (c : Ct) (a b : Nat) (z : BitVec 64) (p : Pl) : Nat := if p.bg = true ∨ p.fr = true then 0 else (tgt (tab c a b) z p.lt p.gl).2
noncomputable def nxP (c : Ct) (a b : Nat) (z : BitVec 64) (p : Pl) (i : Nat) : Nat × Pl :=
  if (ltsP c a b z p i).2 = false ∧ nz (ltsP c a b z p i).1 = true then (lowB (ltsP c a b z p i).1 / 2 ^ a, ⟨false, false, lowB (ltsP c a b z p i).1, goalP c a b z p⟩) else (0, .free)
structure IsMc (c : Ct) (a b : Nat) (m : Mc) (ps : List Pl) : Prop where
  inn : m.inn = a
  out : m.out = b
  z0 : ps[0]? = some .begin
  al : m.ans.length = ps.length
  nl : m.nxt.length = ps.length
  le : ps.length ≤ 2000
  row : ∀ (q : Nat) (p : Pl), ps[q]? = some p → m.ans.getD q [] = (List.range (2 ^ a)).map fun i => (((nxP c a b (wonB (tab c a b)) p i).1 : Nat) : Int)
  nrow : ∀ (q : Nat) (p : Pl), ps[q]? = some p → (m.nxt.getD q []).length = 2 ^ a
  nx : ∀ (q : Nat) (p : Pl), ps[q]? = some p → ∀ i, i < 2 ^ a → ∃ k, k < ps.length ∧ at2 m.nxt q i = ((k : Nat) : Int) ∧ ps[k]? = some (nxP c a b (wonB (tab c a b)) p i).2
theorem idx_quo {a i o : Nat} (hi : i < 2 ^ a) : (i + o * 2 ^ a) / 2 ^ a = o := by
  rw [Nat.add_mul_div_right _ _ (Nat.two_pow_pos a), Nat.div_eq_of_lt hi, Nat.zero_add]
section
variable {c : Ct} {a b : Nat} (ho : OkC c a b)
include ho
theorem i64 {i : Nat} (hi : i < 2 ^ a) : ∀ o < 2 ^ b, i + o * 2 ^ a < 64 := fun o h => Nat.lt_of_lt_of_le (idx_lt hi h) (n64 ho.v.toCtOK)
theorem lts_get {z : BitVec 64} {p : Pl} {i k : Nat} (hi : i < 2 ^ a) (h : (ltsP c a b z p i).1.getLsbD k = true) : ∃ o, o < 2 ^ b ∧ k = i + o * 2 ^ a := by
  unfold ltsP at h
  split at h
  · unfold firstR at h
    split at h
    · obtain ⟨o, h1, h2, _⟩ := first_get (i64 ho hi) h
      exact ⟨o, h1, h2⟩
    · simp at h
  · split at h
    · simp at h
    · simp only at h
      rw [BitVec.getLsbD_and, Bool.and_eq_true] at h
      obtain ⟨o, h1, h2, _⟩ := step_get (i64 ho hi) h.1
      exact ⟨o, h1, h2⟩
theorem nx_out {z : BitVec 64} {p : Pl} {i : Nat} (hi : i < 2 ^ a) : (nxP c a b z p i).1 < 2 ^ b := by
  unfold nxP
  split
  · rename_i h
    obtain ⟨h1, h2⟩ := low_in h.2
    obtain ⟨o, h3, h4⟩ := lts_get ho hi h2
    simp only
    rw [h4, idx_quo hi]; exact h3
  · exact Nat.two_pow_pos b
omit ho in
theorem ans_at {m : Mc} {ps : List Pl} (hm : IsMc c a b m ps) {q : Nat} {p : Pl} (hq : ps[q]? = some p) {i : Nat} (hi : i < 2 ^ a) : at2 m.ans q i = (((nxP c a b (wonB (tab c a b)) p i).1 : Nat) : Int) := by
  unfold at2
  rw [hm.row q p hq, List.getD_eq_getElem?_getD, List.getElem?_map, List.getElem?_range hi]; rfl
theorem mc_fit {m : Mc} {ps : List Pl} (hm : IsMc c a b m ps) : FitP m a b := by
  have h0 : 0 < ps.length := (List.getElem?_eq_some_iff.1 hm.z0).1
  refine ⟨hm.inn, hm.out, by rw [hm.al]; exact h0, by rw [hm.al]; exact hm.le, by rw [hm.al, hm.nl], fun q hq => ?_⟩
  rw [hm.al] at hq
  have hp : ps[q]? = some ps[q] := List.getElem?_eq_getElem hq
  refine ⟨?_, hm.nrow q _ hp, fun i hi => ?_⟩
  · rw [hm.row q _ hp, List.length_map, List.length_range]
  · have ha := ans_at hm hp hi
    obtain ⟨k, h1, h2, h3⟩ := hm.nx q _ hp i hi
    have := nx_out ho (z := wonB (tab c a b)) (p := ps[q]) hi
    exact ⟨by rw [ha]; omega, by rw [ha]; omega, by rw [h2]; omega, by rw [h2, hm.al]; omega⟩
def NodeI (c : Ct) (a b : Nat) (ps : List Pl) (x : Nat) : Prop :=
  ∃ g, ps[x / 2 ^ (a + b)]? = some ⟨false, false, x % 2 ^ (a + b), g⟩ ∧ g < (tab c a b).js.length ∧ (wonB (tab c a b)).getLsbD (x % 2 ^ (a + b)) = true
omit ho in
theorem hA (s : BitVec 64) (ho : OkC c a b) : SubB (aheadB (tab c a b) s) (allB (tab c a b).n) := low_sub (n64 ho.v.toCtOK) (low_ahead s)
omit ho in
theorem ne_or (l : List Fm) : 0 < (orTrue l).length := by
  unfold orTrue
  split
  · decide
  · omega
omit ho in
theorem je_ne : 0 < (tab c a b).je.length := by
  show 0 < ((orTrue c.je).map _).length
  rw [List.length_map]; exact ne_or _
omit ho in
theorem js_ne : 0 < (tab c a b).js.length := by
  show 0 < ((orTrue c.js).map _).length
  rw [List.length_map]; exact ne_or _
theorem tgt_all {l g : Nat} (hl : (wonB (tab c a b)).getLsbD l = true) (hg : g < (tab c a b).js.length) : (aheadB (tab c a b) (tgt (tab c a b) (wonB (tab c a b)) l g).1).getLsbD l = true ∧ SubB (tgt (tab c a b) (wonB (tab c a b)) l g).1 (wonB (tab c a b)) ∧ (tgt (tab c a b) (wonB (tab c a b)) l g).2 < (tab c a b).js.length := by
  have hst : Stab (tab c a b) := stab_tab ho.v.toCtOK
  have hjm : (tab c a b).js.getD g 0#64 ∈ (tab c a b).js := by
    rw [List.getD_eq_getElem?_getD, List.getElem?_eq_getElem hg]; exact List.getElem_mem hg
  have hyw := y_won hst (fun s => hA s ho) hjm
  cases hm : metB (tab c a b) (wonB (tab c a b)) ((tab c a b).js.getD g 0#64) l with
  | true =>
    unfold tgt
    rw [hm, if_pos rfl]
    unfold metB at hm
    rw [Bool.and_eq_true] at hm
    exact ⟨hm.2, .refl _, Nat.mod_lt _ js_ne⟩
  | false =>
    obtain ⟨to, h1, h2, h3, h4⟩ := tgt_go hst je_ne (z_sub_y hst hjm l hl) hm
    rw [h1]
    refine ⟨h2, fun i hi => hyw i ?_, hg⟩
    rcases h4 with h4 | ⟨k, _, hk, h4, _⟩
    · rw [h4] at hi; exact yL_sub hst _ i hi
    · rw [h4] at hi
      refine yL_sub hst (rkL (tab c a b) (wonB (tab c a b)) ((tab c a b).js.getD g 0#64) l + 1) i (yL_succ.2 ⟨_, ?_, hi⟩)
      rw [List.getD_eq_getElem?_getD, List.getElem?_eq_getElem hk]; exact List.getElem_mem hk
theorem node_step {m : Mc} {ps : List Pl} (hm : IsMc c a b m ps) {x i : Nat} (hi : i < 2 ^ a) (hse : seB c m a b x i = true) {g : Nat} (hp : ps[x / 2 ^ (a + b)]? = some ⟨false, false, x % 2 ^ (a + b), g⟩) (hg : g < (tab c a b).js.length) (hw : (wonB (tab c a b)).getLsbD (x % 2 ^ (a + b)) = true) :
    ssB c m a b x i = true ∧ nxM m a b (x / 2 ^ (a + b)) i % 2 ^ (a + b) < 2 ^ (a + b) ∧
      ps[nxM m a b (x / 2 ^ (a + b)) i / 2 ^ (a + b)]? = some ⟨false, false, nxM m a b (x / 2 ^ (a + b)) i % 2 ^ (a + b), (tgt (tab c a b) (wonB (tab c a b)) (x % 2 ^ (a + b)) g).2⟩ ∧
      (tgt (tab c a b) (wonB (tab c a b)) (x % 2 ^ (a + b)) g).1.getLsbD (nxM m a b (x / 2 ^ (a + b)) i % 2 ^ (a + b)) = true := by
  have hf := mc_fit ho hm
  have hpos : 0 < 2 ^ (a + b) := Nat.two_pow_pos _
  obtain ⟨h1, h2, h3⟩ := tgt_all ho hw hg
  have hql : x / 2 ^ (a + b) < m.ans.length := by rw [hm.al]; exact (List.getElem?_eq_some_iff.1 hp).1
  have hlt := ltM_lt hf hql hi
  have hxl : x % 2 ^ (a + b) < 2 ^ (a + b) := Nat.mod_lt _ hpos
  have hleg : holdsF (x % 2 ^ (a + b) : Nat) i c.se = true := by
    have hse := hse
    unfold seB ltM at hse
    rwa [holds_low _ hi (by unfold ltM at hlt; have := n64 ho.v.toCtOK; omega) (by have := ho.v.a3; omega) ho.v.tse ho.st] at hse
  generalize hl : x % 2 ^ (a + b) = l at *
  generalize hto : tgt (tab c a b) (wonB (tab c a b)) l g = T at *
  have hlts : ltsP c a b (wonB (tab c a b)) ⟨false, false, l, g⟩ i = (stepB c.ss a l i (2 ^ b) &&& T.1, !holdsF l i c.se) := by
    unfold ltsP
    rw [if_neg (by simp), if_neg (by simp), hto]
  have hnz : nz (stepB c.ss a l i (2 ^ b) &&& T.1) = true := by
    rw [step_any c.ss a l i T.1 (2 ^ b) (i64 ho hi)]
    rw [ahead_bit ho.v.toCtOK _ _ hxl] at h1
    unfold beforeB at h1
    have := List.all_eq_true.1 h1 i (List.mem_range.2 hi)
    rw [hleg] at this
    simpa using this
  obtain ⟨k1, k2⟩ := low_in hnz
  generalize hkk : lowB (stepB c.ss a l i (2 ^ b) &&& T.1) = k at *
  rw [BitVec.getLsbD_and, Bool.and_eq_true] at k2
  obtain ⟨o, o1, o2, o3⟩ := step_get (i64 ho hi) k2.1
  have hgl : goalP c a b (wonB (tab c a b)) ⟨false, false, l, g⟩ = T.2 := by
    unfold goalP
    rw [if_neg (by simp), hto]
  have hnx : nxP c a b (wonB (tab c a b)) ⟨false, false, l, g⟩ i = (o, ⟨false, false, k, T.2⟩) := by
    unfold nxP
    rw [hlts, hgl]
    simp only
    rw [if_pos ⟨by rw [hleg]; rfl, hnz⟩, hkk, o2, idx_quo hi]
  have ha := ans_at hm hp hi
  rw [hnx] at ha
  have hltM : ltM m a (x / 2 ^ (a + b)) i = k := by
    unfold ltM
    rw [ha, o2]; rfl
  obtain ⟨q', q1, q2, q3⟩ := hm.nx _ _ hp i hi
  rw [hnx] at q3
  have hkn : k < 2 ^ (a + b) := by rw [o2]; exact idx_lt hi o1
  have hnM : nxM m a b (x / 2 ^ (a + b)) i = q' * 2 ^ (a + b) + k := by
    unfold nxM
    rw [q2, hltM]; rfl
  have hmod : (q' * 2 ^ (a + b) + k) % 2 ^ (a + b) = k := by rw [Nat.add_comm, Nat.add_mul_mod_self_right, Nat.mod_eq_of_lt hkn]
  have hdiv : (q' * 2 ^ (a + b) + k) / 2 ^ (a + b) = q' := by rw [Nat.add_comm, Nat.add_mul_div_right _ _ hpos, Nat.div_eq_of_lt hkn, Nat.zero_add]
  rw [hnM, hmod, hdiv]
  refine ⟨?_, hkn, q3, k2.2⟩
  unfold ssB
  rw [hl, hltM]; exact o3
theorem node_I {m : Mc} {ps : List Pl} (hm : IsMc c a b m ps) {x i : Nat} (hi : i < 2 ^ a) (hx : NodeI c a b ps x) (hse : seB c m a b x i = true) : ssB c m a b x i = true ∧ NodeI c a b ps (nxM m a b (x / 2 ^ (a + b)) i) := by
  obtain ⟨g, hp, hg, hw⟩ := hx
  obtain ⟨h1, h2, h3, h4⟩ := node_step ho hm hi hse hp hg hw
  obtain ⟨k1, k2, k3⟩ := tgt_all ho hw hg
  exact ⟨h1, _, h3, k3, k2 _ h4⟩
end
theorem stpN_I {c : Ct} {m : Mc} {a b : Nat} {I : Nat → Prop} (hI : ∀ x i, I x → i < 2 ^ a → seB c m a b x i = true → ssB c m a b x i = true ∧ I (nxM m a b (x / 2 ^ (a + b)) i)) {x : Nat} (hx : I x) {s : HS} (h1 : ∀ y ∈ s.q, I y) (h2 : ∀ y, s.th y = true → I y) :
    ∀ k, k ≤ 2 ^ a → ∃ s', stpN c m a b x s k = some s' ∧ (∀ y ∈ s'.q, I y) ∧ ∀ y, s'.th y = true → I y
  | 0, _ => ⟨s, rfl, h1, h2⟩
  | k + 1, hk => by
    obtain ⟨s', e, g1, g2⟩ := stpN_I hI hx h1 h2 k (by omega)
    have e2 : stpN c m a b x s (k + 1) = stpH c m a b x k s' := by
      show (stpN c m a b x s k).bind _ = _
      rw [e]; rfl
    rw [e2]
    unfold stpH
    split
    · exact ⟨s', rfl, g1, g2⟩
    · rename_i hse
      simp only [Bool.not_eq_false] at hse
      obtain ⟨k1, k2⟩ := hI x k hx (by omega) hse
      rw [k1, if_neg (by decide)]
      refine ⟨_, rfl, fun y hy => ?_, fun y hy => ?_⟩
      · rw [push_q] at hy
        split at hy
        · exact g1 y hy
        · rcases List.mem_append.1 hy with hy | hy
          · exact g1 y hy
          · rw [List.mem_singleton.1 hy]; exact k2
      · rcases (push_th _ _ _).1 hy with hy | hy
        · exact g2 y hy
        · rw [hy]; exact k2
theorem run_I {c : Ct} {m : Mc} {a b : Nat} {I : Nat → Prop} (hI : ∀ x i, I x → i < 2 ^ a → seB c m a b x i = true → ssB c m a b x i = true ∧ I (nxM m a b (x / 2 ^ (a + b)) i)) :
    ∀ (f : Nat) (s : HS), (∀ y ∈ s.q, I y) → (∀ y, s.th y = true → I y) → ∃ s', runH c m a b f s = some s' ∧ ∀ y, s'.th y = true → I y
  | 0, s, h1, h2 => ⟨s, rfl, h2⟩
  | f + 1, s, h1, h2 => by
    unfold runH
    cases hq : s.q with
    | nil => exact ⟨s, rfl, h2⟩
    | cons x r =>
      have hr : (popH s).q = r := by
        show s.xs.drop (s.off + 1) = r
        have hq : s.xs.drop s.off = x :: r := hq
        rw [← List.drop_drop, hq]; rfl
      obtain ⟨s1, e, g1, g2⟩ := stpN_I hI (h1 x (by rw [hq]; exact List.mem_cons_self)) (s := popH s) (fun y hy => by rw [hr] at hy; exact h1 y (by rw [hq]; exact List.mem_cons_of_mem _ hy)) h2 (2 ^ a) (Nat.le_refl _)
      obtain ⟨s2, e2, g3⟩ := run_I hI f s1 g1 g2
      refine ⟨s2, ?_, g3⟩
      show (stpN c m a b x (popH s) (2 ^ a)).bind (runH c m a b f) = some s2
      rw [e]; exact e2
end Go.Sx
namespace Go.Sx
open Go Go.Lg Go.Proofs
theorem lex_lt {A' A F f' f : Nat} (h : A' < A) (hf : f' < F) : A' * F + f' < A * F + f := by
  have := Nat.mul_le_mul_right F (Nat.succ_le_of_lt h)
  rw [Nat.succ_mul] at this
  omega
theorem lex_eq {A' A F f' f : Nat} (h : A' * F + f' = A * F + f) (hf' : f' < F) (hf : f < F) : f' = f := by
  have : (A' * F + f') % F = (A * F + f) % F := congrArg (· % F) h
  rwa [Nat.add_comm, Nat.add_mul_mod_self_right, Nat.mod_eq_of_lt hf', Nat.add_comm (A * F), Nat.add_mul_mod_self_right, Nat.mod_eq_of_lt hf] at this
def dstG (L q g : Nat) : Nat := if g ≤ q then q - g else q + L - g
theorem dst_next {L q g : Nat} (hq : q < L) (hg : g < L) (hne : g ≠ q) : dstG L q ((g + 1) % L) + 1 = dstG L q g := by
  unfold dstG
  by_cases h : g + 1 = L
  · rw [h, Nat.mod_self]; split <;> split <;> omega
  · rw [Nat.mod_eq_of_lt (by omega)]; split <;> split <;> omega
section
variable {c : Ct} {a b : Nat} (ho : OkC c a b) {m : Mc} {ps : List Pl} (hm : IsMc c a b m ps) {s : HS} (he : HEnd c m a b (m.ans.length * 2 ^ (a + b)) s)
def goO (ps : List Pl) (n x : Nat) : Nat := (ps.getD (x / n) .free).gl
noncomputable def potO (c : Ct) (a b : Nat) (ps : List Pl) (q x : Nat) : Nat :=
  (dstG c.js.length q (goO ps (2 ^ (a + b)) x) * 68 + rkL (tab c a b) (wonB (tab c a b)) ((tab c a b).js.getD (goO ps (2 ^ (a + b)) x) 0#64) (x % 2 ^ (a + b))) * ((tab c a b).je.length + 2) +
    fiN (tab c a b) (wonB (tab c a b)) ((tab c a b).js.getD (goO ps (2 ^ (a + b)) x) 0#64) (x % 2 ^ (a + b))
theorem goO_of {n x l g : Nat} (h : ps[x / n]? = some ⟨false, false, l, g⟩) : goO ps n x = g := by
  unfold goO
  rw [List.getD_eq_getElem?_getD, h]; rfl
theorem js_len (h : 0 < c.js.length) : (tab c a b).js.length = c.js.length := by
  show ((orTrue c.js).map _).length = _
  unfold orTrue
  rw [List.length_map, if_neg (by omega)]
theorem js_get {q l : Nat} (hq : q < c.js.length) (hl : l < 64) (hln : l < 2 ^ (a + b)) : ((tab c a b).js.getD q 0#64).getLsbD l = holdsF l 0 c.js[q] := by
  have : (tab c a b).js.getD q 0#64 = setB (fun k => holdsF k 0 c.js[q]) (2 ^ (a + b)) := by
    show ((orTrue c.js).map _).getD q 0#64 = _
    unfold orTrue
    rw [if_neg (by omega), List.getD_eq_getElem?_getD, List.getElem?_map, List.getElem?_eq_getElem hq]; rfl
  rw [this, setB_get _ _ _ hl, decide_eq_true hln, Bool.true_and]
theorem je_get {q l : Nat} (hq : q < c.je.length) (hl : l < 64) (hln : l < 2 ^ (a + b)) : ((tab c a b).je.getD q 0#64).getLsbD l = holdsF l 0 c.je[q] := by
  have : (tab c a b).je.getD q 0#64 = setB (fun k => holdsF k 0 c.je[q]) (2 ^ (a + b)) := by
    show ((orTrue c.je).map _).getD q 0#64 = _
    unfold orTrue
    rw [if_neg (by omega), List.getD_eq_getElem?_getD, List.getElem?_map, List.getElem?_eq_getElem hq]; rfl
  rw [this, setB_get _ _ _ hl, decide_eq_true hln, Bool.true_and]
include ho hm he
theorem pot_arc (hI : ∀ x, s.th x = true → NodeI c a b ps x) {q : Nat} (hq : q < c.js.length) {e : Arc} (hes : e ∈ s.ar) (hp : passA (pairH c q) e = true) :
    potO c a b ps q e.to ≤ potO c a b ps q e.fr ∧ (potO c a b ps q e.to = potO c a b ps q e.fr → ∃ k, fiN (tab c a b) (wonB (tab c a b)) ((tab c a b).js.getD (goO ps (2 ^ (a + b)) e.fr) 0#64) (e.fr % 2 ^ (a + b)) = k + 1 ∧ k < (tab c a b).je.length ∧ ((tab c a b).je.getD k 0#64).getLsbD (e.fr % 2 ^ (a + b)) = false) := by
  have hst : Stab (tab c a b) := stab_tab ho.v.toCtOK
  have h64 := n64 ho.v.toCtOK
  have hpos : 0 < 2 ^ (a + b) := Nat.two_pow_pos _
  obtain ⟨x, i, hx, hi, hse, hy, rfl⟩ := he.arc e hes
  obtain ⟨g, hpl, hg, hw⟩ := hI x hx
  obtain ⟨_, hl', hpl', hto⟩ := node_step ho hm hi hse hpl hg hw
  have hl := Nat.mod_lt x hpos
  have e1 : (arcH c m a b x i).fr = x := rfl
  have e2 : (arcH c m a b x i).to = nxM m a b (x / 2 ^ (a + b)) i := rfl
  rw [e1, e2]
  unfold potO
  rw [goO_of hpl, goO_of hpl']
  generalize nxM m a b (x / 2 ^ (a + b)) i = y at *
  have hrk := rk_lt (tab c a b) (wonB (tab c a b))
  have hfi := fi_lt (tab c a b) (wonB (tab c a b))
  have hjm : (tab c a b).js.getD g 0#64 ∈ (tab c a b).js := by
    rw [List.getD_eq_getElem?_getD, List.getElem?_eq_getElem hg]; exact List.getElem_mem hg
  have hL := js_len (c := c) (a := a) (b := b) (by omega)
  cases hmet : metB (tab c a b) (wonB (tab c a b)) ((tab c a b).js.getD g 0#64) (x % 2 ^ (a + b)) with
  | true =>
    have hT : tgt (tab c a b) (wonB (tab c a b)) (x % 2 ^ (a + b)) g = (wonB (tab c a b), (g + 1) % (tab c a b).js.length) := by
      unfold tgt
      rw [hmet, if_pos rfl]
    have hne : g ≠ q := fun h => by
      subst h
      unfold metB at hmet
      rw [Bool.and_eq_true, js_get hq (by omega) hl] at hmet
      have hlt := mkN_lt c (x % 2 ^ (a + b)) (jL c).length (by unfold jL; rw [List.length_append]; exact ho.l)
      have e1 := pass_bit (mkN c (x % 2 ^ (a + b)) (jL c).length) (c.je.length + g) hlt (by have := ho.l; omega)
      have e2 : (mkN c (x % 2 ^ (a + b)) (jL c).length).testBit (c.je.length + g) = true := by
        rw [mk_bit]
        have e3 : (jL c).getD (c.je.length + g) (.mk 0 0 []) = c.js[g] := by
          unfold jL
          rw [List.getD_eq_getElem?_getD, List.getElem?_append_right (by omega), Nat.add_sub_cancel_left, List.getElem?_eq_getElem hq]; rfl
        rw [e3, holds_plain _ _ 0 _ (ho.p.js _ (List.getElem_mem hq)), hmet.1, Bool.and_true]
        refine decide_eq_true ?_
        unfold jL; rw [List.length_append]; omega
      rw [e2] at e1
      have hp : (andI .i64 ((mkN c (x % 2 ^ (a + b)) (jL c).length : Nat) : Int) ((2 ^ (c.je.length + g) : Nat) : Int) == 0 && andI .i64 0 0 == 0) = true := hp
      rw [e1] at hp; cases hp
    rw [hT, hL]
    simp only
    rw [hL] at hg
    have hd := dst_next hq hg hne
    have := lex_lt (F := (tab c a b).je.length + 2) (f := fiN (tab c a b) (wonB (tab c a b)) ((tab c a b).js.getD g 0#64) (x % 2 ^ (a + b))) (show dstG c.js.length q ((g + 1) % c.js.length) * 68 + rkL (tab c a b) (wonB (tab c a b)) ((tab c a b).js.getD ((g + 1) % c.js.length) 0#64) (y % 2 ^ (a + b)) < dstG c.js.length q g * 68 + rkL (tab c a b) (wonB (tab c a b)) ((tab c a b).js.getD g 0#64) (x % 2 ^ (a + b)) by
      have := hrk ((tab c a b).js.getD ((g + 1) % c.js.length) 0#64) (y % 2 ^ (a + b)); omega) (hfi ((tab c a b).js.getD ((g + 1) % c.js.length) 0#64) (y % 2 ^ (a + b)))
    exact ⟨by omega, fun h => absurd h (by omega)⟩
  | false =>
    obtain ⟨to, h1, h2, h3, h4⟩ := tgt_go hst je_ne (z_sub_y hst hjm _ hw) hmet
    rw [h1] at hto ⊢
    simp only at hto ⊢
    rcases h4 with h4 | ⟨k, f1, f2, f3, f4⟩
    · rw [h4] at hto
      have hd := rk_down h3 hto
      have := lex_lt (F := (tab c a b).je.length + 2) (f := fiN (tab c a b) (wonB (tab c a b)) ((tab c a b).js.getD g 0#64) (x % 2 ^ (a + b))) (show dstG c.js.length q g * 68 + rkL (tab c a b) (wonB (tab c a b)) ((tab c a b).js.getD g 0#64) (y % 2 ^ (a + b)) < dstG c.js.length q g * 68 + rkL (tab c a b) (wonB (tab c a b)) ((tab c a b).js.getD g 0#64) (x % 2 ^ (a + b)) by omega) (hfi ((tab c a b).js.getD g 0#64) (y % 2 ^ (a + b)))
      exact ⟨by omega, fun h => absurd h (by omega)⟩
    · rw [f3] at hto
      have hd := rk_stay h3 f2 hto
      rcases Nat.lt_or_eq_of_le hd with hd | hd
      · have := lex_lt (F := (tab c a b).je.length + 2) (f := fiN (tab c a b) (wonB (tab c a b)) ((tab c a b).js.getD g 0#64) (x % 2 ^ (a + b))) (show dstG c.js.length q g * 68 + rkL (tab c a b) (wonB (tab c a b)) ((tab c a b).js.getD g 0#64) (y % 2 ^ (a + b)) < dstG c.js.length q g * 68 + rkL (tab c a b) (wonB (tab c a b)) ((tab c a b).js.getD g 0#64) (x % 2 ^ (a + b)) by omega) (hfi ((tab c a b).js.getD g 0#64) (y % 2 ^ (a + b)))
        exact ⟨by omega, fun h => absurd h (by omega)⟩
      · rw [← hd] at hto
        have hfs := fi_stay hst f2 hto
        rw [hd]
        exact ⟨by omega, fun _ => ⟨k, f1, f2, f4⟩⟩
theorem pot_path (hI : ∀ x, s.th x = true → NodeI c a b ps x) {q : Nat} (hq : q < c.js.length) {x y : Nat} (h : Path (pairH c q) s.ar x y) : potO c a b ps q y ≤ potO c a b ps q x := by
  induction h with
  | refl => exact Nat.le_refl _
  | step _ e ih =>
    obtain ⟨e1, k1, k2, k3, k4⟩ := adj_mem.1 e
    have := (pot_arc ho hm he hI hq k1 k2).1
    rw [k3, k4] at this
    omega
theorem mc_chk (hI : ∀ x, s.th x = true → NodeI c a b ps x) : chkH c (m.ans.length * 2 ^ (a + b)) s = true := by
  have h64 := n64 ho.v.toCtOK
  have hpos : 0 < 2 ^ (a + b) := Nat.two_pow_pos _
  have hf := mc_fit ho hm
  have hjl : c.je.length ≤ 12 := by have := ho.l; omega
  unfold chkH
  refine List.all_eq_true.2 fun q hq => List.all_eq_true.2 fun x hx => ?_
  have hq := List.mem_range.1 hq
  have hx := List.mem_range.1 hx
  cases hth : s.th x with
  | false => rw [Bool.and_false]; rfl
  | true =>
  cases hc : cycB c (m.ans.length * 2 ^ (a + b)) q s.ar x with
  | false => rfl
  | true =>
  exfalso
  obtain ⟨⟨e, k1, k2, k3, k4⟩, hall⟩ := (cycB_iff c (m.ans.length * 2 ^ (a + b)) q (fun e => e.ma.toNat) s.ar hjl (arc_in he) (arc_ma ho he) hx).1 hc
  have hpe : ∀ e ∈ s.ar, passA (pairH c q) e = true → Mut (pairH c q) s.ar x e.fr → Mut (pairH c q) s.ar x e.to → potO c a b ps q e.fr = potO c a b ps q x ∧ potO c a b ps q e.to = potO c a b ps q e.fr := fun e _ _ m1 m2 => by
    have a1 := pot_path ho hm he hI hq m1.1
    have a2 := pot_path ho hm he hI hq m1.2
    have a3 := pot_path ho hm he hI hq m2.1
    have a4 := pot_path ho hm he hI hq m2.2
    omega
  obtain ⟨p1, p2⟩ := hpe e k1 k2 k3 k4
  obtain ⟨k, f1, f2, f3⟩ := (pot_arc ho hm he hI hq k1 k2).2 p2
  have hel := Nat.mod_lt e.fr hpos
  by_cases hj : c.je.length = 0
  · have hje : (tab c a b).je = [setB (fun k => holdsF k 0 (.mk 0 0 [])) (2 ^ (a + b))] := by
      show (orTrue c.je).map _ = _
      unfold orTrue
      rw [if_pos hj]; rfl
    rw [hje] at f2 f3
    have hk0 : k = 0 := by simpa using f2
    subst hk0
    simp only [List.getD_cons_zero] at f3
    rw [setB_get _ _ _ (by omega), decide_eq_true hel] at f3
    simp [holdsF] at f3
  · have hlen : (tab c a b).je.length = c.je.length := by
      show ((orTrue c.je).map _).length = _
      unfold orTrue
      rw [List.length_map, if_neg hj]
    obtain ⟨e', g1, g2, g3, g4, g5⟩ := hall k (by omega)
    obtain ⟨r1, r2⟩ := hpe e' g1 g2 g3 g4
    obtain ⟨k', d1, d2, d3⟩ := (pot_arc ho hm he hI hq g1 g2).2 r2
    have hpp : potO c a b ps q e'.fr = potO c a b ps q e.fr := by omega
    unfold potO at hpp
    have hfi := lex_eq hpp (fi_lt _ _ _ _) (fi_lt _ _ _ _)
    have hkk : k' = k := by omega
    subst hkk
    have hel' := Nat.mod_lt e'.fr hpos
    have hkl : k' < c.je.length := by omega
    rw [je_get hkl (by omega) hel'] at d3
    obtain ⟨x2, i2, hx2, _, _, _, rfl⟩ := he.arc e' g1
    have g5 : (mkN c (x2 % 2 ^ (a + b)) (jL c).length).testBit k' = true := g5
    rw [mk_bit] at g5
    have e3 : (jL c).getD k' (.mk 0 0 []) = c.je[k'] := by
      unfold jL
      rw [List.getD_eq_getElem?_getD, List.getElem?_append_left hkl, List.getElem?_eq_getElem hkl]; rfl
    rw [e3, holds_plain _ _ 0 _ (ho.p.je _ (List.getElem_mem hkl)), Bool.and_eq_true] at g5
    have d3 : holdsF (x2 % 2 ^ (a + b) : Nat) 0 c.je[k'] = false := d3
    rw [g5.2] at d3; cases d3
end
section
variable {c : Ct} {a b : Nat} (ho : OkC c a b) {m : Mc} {ps : List Pl} (hm : IsMc c a b m ps)
include ho hm
theorem mc_holds {x : Nat} (hx : x < m.ans.length * 2 ^ (a + b)) (hI : NodeI c a b ps x) : hldB c m a b x = true := by
  have hstep : ∀ x i, NodeI c a b ps x → i < 2 ^ a → seB c m a b x i = true → ssB c m a b x i = true ∧ NodeI c a b ps (nxM m a b (x / 2 ^ (a + b)) i) := fun x i h1 h2 h3 => node_I ho hm h2 h1 h3
  obtain ⟨s, hr, hth⟩ := run_I hstep (2 * (m.ans.length * 2 ^ (a + b)) + 2) (startH x) (fun y hy => by rw [start_q, List.mem_singleton] at hy; rw [hy]; exact hI) (fun y hy => by rw [start_th.1 hy]; exact hI)
  obtain ⟨he, _⟩ := run_end (mc_fit ho hm) _ _ (startH x) s (start_inv hx) (by
      have := cntF_le (startH x).th (m.ans.length * 2 ^ (a + b))
      rw [start_q]
      show _ + 1 < _
      omega) hr
  unfold hldB
  rw [hr]
  exact mc_chk ho hm he hth
theorem mc_sat (hk : keptB c a b (wonB (tab c a b)) = true) : satB c m a b = true := by
  have hpos : 0 < 2 ^ (a + b) := Nat.two_pow_pos _
  unfold satB
  refine List.all_eq_true.2 fun i hi => ?_
  have hki := List.all_eq_true.1 hk i hi
  have hi := List.mem_range.1 hi
  unfold satI
  rw [holds_plain (i : Int) (i : Int) 0 _ ho.p.ie]
  cases e : holdsF i 0 c.ie with
  | false => rfl
  | true =>
    unfold firstR at hki
    rw [if_pos e] at hki
    simp only [Bool.false_or] at hki
    have hnz : nz (firstB c a i (wonB (tab c a b)) (2 ^ b)) = true := hki
    obtain ⟨k1, k2⟩ := low_in hnz
    generalize hkk : lowB (firstB c a i (wonB (tab c a b)) (2 ^ b)) = k at *
    obtain ⟨o, o1, o2, o3, o4⟩ := first_get (i64 ho hi) k2
    have hlts : ltsP c a b (wonB (tab c a b)) .begin i = (firstB c a i (wonB (tab c a b)) (2 ^ b), false) := by
      unfold ltsP
      rw [if_pos (show Pl.begin.bg = true from rfl)]
      unfold firstR
      rw [if_pos e]
    have hnx : nxP c a b (wonB (tab c a b)) .begin i = (o, ⟨false, false, k, 0⟩) := by
      unfold nxP
      rw [hlts]
      simp only
      rw [if_pos ⟨trivial, hnz⟩, hkk, o2, idx_quo hi]; rfl
    have ha := ans_at hm hm.z0 hi
    rw [hnx] at ha
    have hltM : ltM m a 0 i = k := by
      unfold ltM
      rw [ha, o2]; rfl
    obtain ⟨q', q1, q2, q3⟩ := hm.nx _ _ hm.z0 i hi
    rw [hnx] at q3
    have hkn : k < 2 ^ (a + b) := by rw [o2]; exact idx_lt hi o1
    have hnM : nxM m a b 0 i = q' * 2 ^ (a + b) + k := by
      unfold nxM
      rw [q2, hltM]; rfl
    have hmod : (q' * 2 ^ (a + b) + k) % 2 ^ (a + b) = k := by rw [Nat.add_comm, Nat.add_mul_mod_self_right, Nat.mod_eq_of_lt hkn]
    have hdiv : (q' * 2 ^ (a + b) + k) / 2 ^ (a + b) = q' := by rw [Nat.add_comm, Nat.add_mul_div_right _ _ hpos, Nat.div_eq_of_lt hkn, Nat.zero_add]
    have hI : NodeI c a b ps (nxM m a b 0 i) := by
      rw [hnM]
      unfold NodeI
      rw [hmod, hdiv]
      exact ⟨0, q3, js_ne, o3⟩
    have hlt := nxM_lt (mc_fit ho hm) (q := 0) (by rw [hm.al]; exact (List.getElem?_eq_some_iff.1 hm.z0).1) hi
    rw [mc_holds ho hm hlt hI, hltM, holds_plain (k : Int) (k : Int) 0 _ ho.p.is, o4]; rfl
end
end Go.Sx
