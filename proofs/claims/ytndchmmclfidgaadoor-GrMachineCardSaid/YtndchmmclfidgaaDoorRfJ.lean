import Derived.Test.YtndchmmclfidgaaDoorRfG
import Derived.Test.YtndchmmclfidgaaDoorLgAw
set_option maxRecDepth 100000
set_option linter.unusedSimpArgs false
set_option linter.unusedVariables false
set_option linter.unnecessarySimpa false
namespace Go.Sx
open Go Go.Lg Go.Proofs
def jL (c : Ct) : List Fm := c.je ++ c.js
def mkN (c : Ct) (z : Nat) : Nat → Nat
  | 0 => 0
  | i + 1 => if holdsF z z ((jL c).getD i (.mk 0 0 [])) then mkN c z i ||| 2 ^ i else mkN c z i
def ltM (m : Mc) (a q i : Nat) : Nat := i + (at2 m.ans q i).toNat * 2 ^ a
def nxM (m : Mc) (a b q i : Nat) : Nat := (at2 m.nxt q i).toNat * 2 ^ (a + b) + ltM m a q i
structure HS where
  th : Nat → Bool
  xs : List Nat
  off : Nat
  ct : Nat
  ar : List Arc
def HS.q (s : HS) : List Nat := s.xs.drop s.off
def pushH (s : HS) (y : Nat) : HS := if s.th y then s else ⟨fun i => if i = y then true else s.th i, s.xs.drop s.off ++ [y], 0, s.ct + 1, s.ar⟩
def arcH (c : Ct) (m : Mc) (a b x i : Nat) : Arc := ⟨x, nxM m a b (x / 2 ^ (a + b)) i, (mkN c (x % 2 ^ (a + b)) (jL c).length : Nat), 0⟩
def seB (c : Ct) (m : Mc) (a b x i : Nat) : Bool := holdsF (x % 2 ^ (a + b) : Nat) (ltM m a (x / 2 ^ (a + b)) i : Nat) c.se
def ssB (c : Ct) (m : Mc) (a b x i : Nat) : Bool := holdsF (x % 2 ^ (a + b) : Nat) (ltM m a (x / 2 ^ (a + b)) i : Nat) c.ss
def addH (c : Ct) (m : Mc) (a b x i : Nat) (s : HS) : HS := ⟨s.th, s.xs, s.off, s.ct, s.ar ++ [arcH c m a b x i]⟩
def stpH (c : Ct) (m : Mc) (a b x i : Nat) (s : HS) : Option HS :=
  if seB c m a b x i = false then some s else if ssB c m a b x i = false then none else some (pushH (addH c m a b x i s) (nxM m a b (x / 2 ^ (a + b)) i))
def stpN (c : Ct) (m : Mc) (a b x : Nat) (s : HS) : Nat → Option HS
  | 0 => some s
  | i + 1 => (stpN c m a b x s i).bind (stpH c m a b x i)
def popH (s : HS) : HS := ⟨s.th, s.xs, s.off + 1, s.ct, s.ar⟩
def runH (c : Ct) (m : Mc) (a b : Nat) : Nat → HS → Option HS
  | 0, s => some s
  | f + 1, s => match s.q with
    | [] => some s
    | x :: _ => (stpN c m a b x (popH s) (2 ^ a)).bind (runH c m a b f)
theorem stpN_none {c : Ct} {m : Mc} {a b x : Nat} {s : HS} {i : Nat} (h : stpN c m a b x s i = none) : ∀ k, i ≤ k → stpN c m a b x s k = none
  | 0, hk => by rw [show i = 0 by omega] at h; exact h
  | k + 1, hk => by
    rcases Nat.lt_or_ge k i with h1 | h1
    · rw [show k + 1 = i by omega]; exact h
    · show (stpN c m a b x s k).bind _ = none
      rw [stpN_none h k h1]; rfl
structure HInv (c : Ct) (m : Mc) (a b N : Nat) (P : Nat → Prop) (s : HS) : Prop where
  q : ∀ x ∈ s.q, s.th x = true
  out : ∀ x, s.th x = true → x < N
  cls : ∀ x, s.th x = true → x ∈ s.q ∨ P x
  prc : ∀ x, P x → ∀ i < 2 ^ a, seB c m a b x i = true → ssB c m a b x i = true ∧ s.th (nxM m a b (x / 2 ^ (a + b)) i) = true ∧ arcH c m a b x i ∈ s.ar
  arc : ∀ e ∈ s.ar, ∃ x i, s.th x = true ∧ i < 2 ^ a ∧ seB c m a b x i = true ∧ s.th (nxM m a b (x / 2 ^ (a + b)) i) = true ∧ e = arcH c m a b x i
theorem ltM_lt {m : Mc} {a b : Nat} (hf : FitP m a b) {q i : Nat} (hq : q < m.ans.length) (hi : i < 2 ^ a) : ltM m a q i < 2 ^ (a + b) := by
  have h := ((hf.rows q hq).cells i hi)
  exact idx_lt hi (by have := h.a0; have := h.a1; omega)
theorem nxM_lt {m : Mc} {a b : Nat} (hf : FitP m a b) {q i : Nat} (hq : q < m.ans.length) (hi : i < 2 ^ a) : nxM m a b q i < m.ans.length * 2 ^ (a + b) := by
  have h := ((hf.rows q hq).cells i hi)
  have h1 := ltM_lt hf hq hi
  have h2 : (at2 m.nxt q i).toNat + 1 ≤ m.ans.length := by have := h.n0; have := h.n1; omega
  have h3 := Nat.mul_le_mul_right (2 ^ (a + b)) h2
  rw [Nat.add_mul, Nat.one_mul] at h3
  unfold nxM; omega
theorem quo_lt {N a b x : Nat} (h : x < N * 2 ^ (a + b)) : x / 2 ^ (a + b) < N := Nat.div_lt_of_lt_mul (by rw [Nat.mul_comm]; exact h)
theorem push_q (s : HS) (y : Nat) : (pushH s y).q = if s.th y then s.q else s.q ++ [y] := by
  unfold pushH
  split
  · rfl
  · rfl
theorem push_th (s : HS) (y x : Nat) : (pushH s y).th x = true ↔ s.th x = true ∨ x = y := by
  unfold pushH
  split
  · rename_i h
    exact ⟨.inl, fun h1 => h1.elim id fun h1 => h1 ▸ h⟩
  · show (if x = y then true else s.th x) = true ↔ _
    by_cases e : x = y
    · rw [if_pos e]; exact ⟨fun _ => .inr e, fun _ => rfl⟩
    · rw [if_neg e]; exact ⟨.inl, fun h => h.elim id fun h => absurd h e⟩
theorem push_ar (s : HS) (y : Nat) : (pushH s y).ar = s.ar := by unfold pushH; split <;> rfl
theorem push_cnt {N : Nat} (s : HS) (y : Nat) (hy : y < N) : cntF' (pushH s y).th N + (pushH s y).q.length = cntF' s.th N + s.q.length := by
  unfold pushH
  cases h : s.th y with
  | true => rfl
  | false =>
    have := cnt_set hy h
    show cntF' (fun i => if i = y then true else s.th i) N + (s.xs.drop s.off ++ [y]).length = cntF' s.th N + (s.xs.drop s.off).length
    rw [List.length_append]
    show _ + ((s.xs.drop s.off).length + 1) = _
    omega
structure SInvH (c : Ct) (m : Mc) (a b N : Nat) (P : Nat → Prop) (x k : Nat) (s : HS) : Prop where
  q : ∀ y ∈ s.q, s.th y = true
  out : ∀ y, s.th y = true → y < N
  cls : ∀ y, s.th y = true → y ∈ s.q ∨ y = x ∨ P y
  prc : ∀ y, P y → ∀ i < 2 ^ a, seB c m a b y i = true → ssB c m a b y i = true ∧ s.th (nxM m a b (y / 2 ^ (a + b)) i) = true ∧ arcH c m a b y i ∈ s.ar
  cur : ∀ i < k, seB c m a b x i = true → ssB c m a b x i = true ∧ s.th (nxM m a b (x / 2 ^ (a + b)) i) = true ∧ arcH c m a b x i ∈ s.ar
  arc : ∀ e ∈ s.ar, ∃ y i, s.th y = true ∧ i < 2 ^ a ∧ seB c m a b y i = true ∧ s.th (nxM m a b (y / 2 ^ (a + b)) i) = true ∧ e = arcH c m a b y i
  me : s.th x = true
theorem stp_inv {c : Ct} {m : Mc} {a b : Nat} (hf : FitP m a b) {P : Nat → Prop} {x k : Nat} (hk : k < 2 ^ a) {s s' : HS} (h : SInvH c m a b (m.ans.length * 2 ^ (a + b)) P x k s) (hs : stpH c m a b x k s = some s') :
    SInvH c m a b (m.ans.length * 2 ^ (a + b)) P x (k + 1) s' ∧ cntF' s'.th (m.ans.length * 2 ^ (a + b)) + s'.q.length = cntF' s.th (m.ans.length * 2 ^ (a + b)) + s.q.length ∧ s'.ar.length ≤ s.ar.length + 1 := by
  have hxl := quo_lt (h.out x h.me)
  have hnx := nxM_lt hf hxl hk
  unfold stpH at hs
  cases e1 : seB c m a b x k with
  | false =>
    rw [e1, if_pos rfl] at hs; cases hs
    refine ⟨⟨h.q, h.out, h.cls, h.prc, fun i hi hse => ?_, h.arc, h.me⟩, rfl, Nat.le_succ _⟩
    rcases Nat.lt_succ_iff_lt_or_eq.1 hi with hi | rfl
    · exact h.cur i hi hse
    · rw [e1] at hse; cases hse
  | true =>
    rw [e1, if_neg (by decide)] at hs
    cases e2 : ssB c m a b x k with
    | false => rw [e2, if_pos rfl] at hs; cases hs
    | true =>
      rw [e2, if_neg (by decide)] at hs; cases hs
      have hth := push_th (addH c m a b x k s) (nxM m a b (x / 2 ^ (a + b)) k)
      have har : (pushH (addH c m a b x k s) (nxM m a b (x / 2 ^ (a + b)) k)).ar = s.ar ++ [arcH c m a b x k] := push_ar _ _
      have hq := push_q (addH c m a b x k s) (nxM m a b (x / 2 ^ (a + b)) k)
      have hmem : ∀ y, y ∈ (pushH (addH c m a b x k s) (nxM m a b (x / 2 ^ (a + b)) k)).q ↔ y ∈ s.q ∨ (y = nxM m a b (x / 2 ^ (a + b)) k ∧ s.th y ≠ true) := fun y => by
        rw [hq]
        show y ∈ (if s.th _ = true then s.q else s.q ++ [_]) ↔ _
        split
        · rename_i e
          exact ⟨.inl, fun h => h.elim id fun h => absurd (h.1 ▸ e) h.2⟩
        · rename_i e
          rw [List.mem_append, List.mem_singleton]
          exact ⟨fun h => h.imp id fun h => ⟨h, h ▸ e⟩, fun h => h.imp id fun h => h.1⟩
      refine ⟨⟨fun y hy => ?_, fun y hy => ?_, fun y hy => ?_, fun y hy i hi hse => ?_, fun i hi hse => ?_, fun e he => ?_, (hth x).2 (.inl h.me)⟩, push_cnt _ _ hnx, by rw [har, List.length_append]; exact Nat.le_refl _⟩
      · rcases (hmem y).1 hy with hy | hy
        · exact (hth y).2 (.inl (h.q y hy))
        · exact (hth y).2 (.inr hy.1)
      · rcases (hth y).1 hy with hy | hy
        · exact h.out y hy
        · rw [hy]; exact hnx
      · by_cases e : s.th y = true
        · rcases h.cls y e with hc | hc
          · exact .inl ((hmem y).2 (.inl hc))
          · exact .inr hc
        · rcases (hth y).1 hy with hy | hy
          · exact absurd hy e
          · exact .inl ((hmem y).2 (.inr ⟨hy, e⟩))
      · obtain ⟨h1, h2, h3⟩ := h.prc y hy i hi hse
        exact ⟨h1, (hth _).2 (.inl h2), by rw [har]; exact List.mem_append_left _ h3⟩
      · rcases Nat.lt_succ_iff_lt_or_eq.1 hi with hi | rfl
        · obtain ⟨h1, h2, h3⟩ := h.cur i hi hse
          exact ⟨h1, (hth _).2 (.inl h2), by rw [har]; exact List.mem_append_left _ h3⟩
        · exact ⟨e2, (hth _).2 (.inr rfl), by rw [har]; simp⟩
      · rw [har, List.mem_append, List.mem_singleton] at he
        rcases he with he | rfl
        · obtain ⟨y, i, h1, h2, h3, h4, h5⟩ := h.arc e he
          exact ⟨y, i, (hth _).2 (.inl h1), h2, h3, (hth _).2 (.inl h4), h5⟩
        · exact ⟨x, k, (hth _).2 (.inl h.me), hk, e1, (hth _).2 (.inr rfl), rfl⟩
theorem stpN_inv {c : Ct} {m : Mc} {a b : Nat} (hf : FitP m a b) {P : Nat → Prop} {x : Nat} {s : HS} (h : SInvH c m a b (m.ans.length * 2 ^ (a + b)) P x 0 s) : ∀ k, k ≤ 2 ^ a → ∀ s', stpN c m a b x s k = some s' →
    SInvH c m a b (m.ans.length * 2 ^ (a + b)) P x k s' ∧ cntF' s'.th (m.ans.length * 2 ^ (a + b)) + s'.q.length = cntF' s.th (m.ans.length * 2 ^ (a + b)) + s.q.length ∧ s'.ar.length ≤ s.ar.length + k
  | 0, _, s', hs => by cases hs; exact ⟨h, rfl, Nat.le_refl _⟩
  | k + 1, hk, s', hs => by
    have hs : (stpN c m a b x s k).bind (stpH c m a b x k) = some s' := hs
    cases e : stpN c m a b x s k with
    | none => rw [e] at hs; cases hs
    | some s1 =>
      rw [e] at hs
      obtain ⟨i1, i2, i3⟩ := stpN_inv hf h k (by omega) s1 e
      obtain ⟨j1, j2, j3⟩ := stp_inv hf (by omega) i1 hs
      exact ⟨j1, j2.trans i2, by omega⟩
theorem pop_invH {c : Ct} {m : Mc} {a b N : Nat} {P : Nat → Prop} {s : HS} {x : Nat} {r : List Nat} (hq : s.q = x :: r) (h : HInv c m a b N P s) : SInvH c m a b N P x 0 (popH s) ∧ (popH s).q = r := by
  have hr : (popH s).q = r := by
    show s.xs.drop (s.off + 1) = r
    have hq : s.xs.drop s.off = x :: r := hq
    rw [← List.drop_drop, hq]; rfl
  refine ⟨⟨fun y hy => ?_, h.out, fun y hy => ?_, h.prc, fun i hi => absurd hi (Nat.not_lt_zero _), h.arc, h.q x (by rw [hq]; exact List.mem_cons_self)⟩, hr⟩
  · rw [hr] at hy; exact h.q y (by rw [hq]; exact List.mem_cons_of_mem _ hy)
  · rcases h.cls y hy with hc | hc
    · rw [hq, List.mem_cons] at hc
      rcases hc with hc | hc
      · exact .inr (.inl hc)
      · exact .inl (by rw [hr]; exact hc)
    · exact .inr (.inr hc)
theorem end_invH {c : Ct} {m : Mc} {a b N : Nat} {P : Nat → Prop} {s : HS} {x : Nat} (h : SInvH c m a b N P x (2 ^ a) s) : HInv c m a b N (fun y => y = x ∨ P y) s :=
  ⟨h.q, h.out, fun y hy => (h.cls y hy), fun y hy i hi hse => by
    rcases hy with rfl | hy
    · exact h.cur i hi hse
    · exact h.prc y hy i hi hse, h.arc⟩
structure HEnd (c : Ct) (m : Mc) (a b N : Nat) (s : HS) : Prop where
  out : ∀ x, s.th x = true → x < N
  prc : ∀ x, s.th x = true → ∀ i < 2 ^ a, seB c m a b x i = true → ssB c m a b x i = true ∧ s.th (nxM m a b (x / 2 ^ (a + b)) i) = true ∧ arcH c m a b x i ∈ s.ar
  arc : ∀ e ∈ s.ar, ∃ x i, s.th x = true ∧ i < 2 ^ a ∧ seB c m a b x i = true ∧ s.th (nxM m a b (x / 2 ^ (a + b)) i) = true ∧ e = arcH c m a b x i
theorem cntF_mono {f g : Nat → Bool} (h : ∀ x, f x = true → g x = true) (n : Nat) : cntF' g n ≤ cntF' f n := by
  unfold cntF'
  rw [← List.countP_eq_length_filter, ← List.countP_eq_length_filter]
  refine List.countP_mono_left fun x _ hx => ?_
  cases e : f x with
  | false => rfl
  | true => rw [h x e] at hx; cases hx
theorem stp_mono {c : Ct} {m : Mc} {a b x k : Nat} {s s' : HS} (h : stpH c m a b x k s = some s') {y : Nat} (hy : s.th y = true) : s'.th y = true := by
  unfold stpH at h
  split at h
  · cases h; exact hy
  · split at h
    · cases h
    · cases h; exact (push_th _ _ _).2 (.inl hy)
theorem stpN_mono {c : Ct} {m : Mc} {a b x : Nat} {s : HS} : ∀ k s', stpN c m a b x s k = some s' → ∀ y, s.th y = true → s'.th y = true
  | 0, s', h, y, hy => by cases h; exact hy
  | k + 1, s', h, y, hy => by
    have h : (stpN c m a b x s k).bind (stpH c m a b x k) = some s' := h
    cases e : stpN c m a b x s k with
    | none => rw [e] at h; cases h
    | some s1 => rw [e] at h; exact stp_mono h (stpN_mono k s1 e y hy)
theorem run_end {c : Ct} {m : Mc} {a b : Nat} (hf : FitP m a b) : ∀ (f : Nat) (P : Nat → Prop) (s s' : HS), HInv c m a b (m.ans.length * 2 ^ (a + b)) P s → 2 * cntF' s.th (m.ans.length * 2 ^ (a + b)) + s.q.length < f → runH c m a b f s = some s' →
    HEnd c m a b (m.ans.length * 2 ^ (a + b)) s' ∧ ∀ x, s.th x = true → s'.th x = true
  | 0, P, s, s', h, hm, hr => absurd hm (Nat.not_lt_zero _)
  | f + 1, P, s, s', h, hm, hr => by
    unfold runH at hr
    cases hq : s.q with
    | nil =>
      rw [hq] at hr; cases hr
      have hP : ∀ x, s.th x = true → P x := fun x hx => (h.cls x hx).elim (fun h1 => by rw [hq] at h1; cases h1) id
      exact ⟨⟨h.out, fun x hx => h.prc x (hP x hx), h.arc⟩, fun _ h => h⟩
    | cons x r =>
      rw [hq] at hr hm
      obtain ⟨h1, h2⟩ := pop_invH hq h
      have hr : (stpN c m a b x (popH s) (2 ^ a)).bind (runH c m a b f) = some s' := hr
      cases e : stpN c m a b x (popH s) (2 ^ a) with
      | none => rw [e] at hr; cases hr
      | some s1 =>
        rw [e] at hr
        obtain ⟨i1, i2, _⟩ := stpN_inv hf h1 (2 ^ a) (Nat.le_refl _) s1 e
        have hmo := stpN_mono (2 ^ a) s1 e
        have hc : cntF' s1.th (m.ans.length * 2 ^ (a + b)) ≤ cntF' s.th (m.ans.length * 2 ^ (a + b)) := cntF_mono hmo _
        rw [h2] at i2
        have i2 : _ = cntF' s.th (m.ans.length * 2 ^ (a + b)) + r.length := i2
        simp only [List.length_cons] at hm
        obtain ⟨k1, k2⟩ := run_end hf f _ s1 s' (end_invH i1) (by omega) hr
        exact ⟨k1, fun y hy => k2 y (hmo y hy)⟩
structure QOK (x0 : Nat) (s : HS) : Prop where
  ct : s.ct = 0 → s.xs = [x0]
  off : s.off ≤ s.xs.length
theorem push_qok {x0 : Nat} {s : HS} (h : QOK x0 s) (y : Nat) : QOK x0 (pushH s y) ∧ s.ct ≤ (pushH s y).ct := by
  unfold pushH
  split
  · exact ⟨h, Nat.le_refl _⟩
  · exact ⟨⟨fun h => absurd h (Nat.succ_ne_zero _), Nat.zero_le _⟩, Nat.le_succ _⟩
theorem stp_qok {c : Ct} {m : Mc} {a b x k x0 : Nat} {s s' : HS} (h : QOK x0 s) (hs : stpH c m a b x k s = some s') : QOK x0 s' ∧ s.ct ≤ s'.ct := by
  unfold stpH at hs
  split at hs
  · cases hs; exact ⟨h, Nat.le_refl _⟩
  · split at hs
    · cases hs
    · cases hs
      exact push_qok (s := addH c m a b x k s) ⟨h.ct, h.off⟩ _
theorem stpN_qok {c : Ct} {m : Mc} {a b x x0 : Nat} {s : HS} (h : QOK x0 s) : ∀ k s', stpN c m a b x s k = some s' → QOK x0 s' ∧ s.ct ≤ s'.ct
  | 0, s', hs => by cases hs; exact ⟨h, Nat.le_refl _⟩
  | k + 1, s', hs => by
    have hs : (stpN c m a b x s k).bind (stpH c m a b x k) = some s' := hs
    cases e : stpN c m a b x s k with
    | none => rw [e] at hs; cases hs
    | some s1 =>
      rw [e] at hs
      obtain ⟨h1, h2⟩ := stpN_qok h k s1 e
      obtain ⟨h3, h4⟩ := stp_qok h1 hs
      exact ⟨h3, Nat.le_trans h2 h4⟩
def startH (x : Nat) : HS := ⟨fun i => if i = x then true else false, [x], 0, 0, []⟩
theorem start_th {x y : Nat} : (startH x).th y = true ↔ y = x := by
  show (if y = x then true else false) = true ↔ _
  split
  · rename_i e; exact ⟨fun _ => e, fun _ => rfl⟩
  · rename_i e; exact ⟨fun h => Bool.noConfusion h, fun h => absurd h e⟩
theorem start_q (x : Nat) : (startH x).q = [x] := rfl
theorem start_inv {c : Ct} {m : Mc} {a b N x : Nat} (hx : x < N) : HInv c m a b N (fun _ => False) (startH x) where
  q := fun y hy => by rw [start_q, List.mem_singleton] at hy; exact start_th.2 hy
  out := fun y hy => by rw [start_th.1 hy]; exact hx
  cls := fun y hy => .inl (by rw [start_q, List.mem_singleton]; exact start_th.1 hy)
  prc := fun y hy => hy.elim
  arc := fun e he => by cases he
end Go.Sx
set_option maxHeartbeats 4000000
namespace Go.Sx
open Go Go.Lg Go.Proofs
theorem b24 {gl : GL} : Body (C gl).P 24 Tryd.f24 (codeOf Tryd.f24) := ⟨Tryd.func24, by kernel_rfl, by kernel_rfl⟩
noncomputable def cycB (c : Ct) (N i : Nat) (l : List Arc) : Nat → Bool :=
  cycF ⟨((2 ^ (c.je.length + i) : Nat) : Int), ((2 ^ c.je.length : Nat) : Int) - 1, 0, 0⟩ l (prtN ⟨((2 ^ (c.je.length + i) : Nat) : Int), ((2 ^ c.je.length : Nat) : Int) - 1, 0, 0⟩ l N N).1 (prtN ⟨((2 ^ (c.je.length + i) : Nat) : Int), ((2 ^ c.je.length : Nat) : Int) - 1, 0, 0⟩ l N N).2
noncomputable def chkH (c : Ct) (N : Nat) (s : HS) : Bool := (List.range c.js.length).all fun i => (List.range N).all fun x => !(cycB c N i s.ar x && s.th x)
noncomputable def hldB (c : Ct) (m : Mc) (a b x0 : Nat) : Bool := match runH c m a b (2 * (m.ans.length * 2 ^ (a + b)) + 2) (startH x0) with | none => false | some s => chkH c (m.ans.length * 2 ^ (a + b)) s
def hB (c : Ct) (m : Mc) (N : Nat) (th : Nat → Bool) (k : Nat) : Sto :=
  (((Sto.none.add (.box (ctCells c))).add (.box (mcCells m))).add (.row 1 (tabL N th) false)).add (.tok 4 k)
def hS' (c : Ct) (m : Mc) (N : Nat) (s : HS) : Sto := (hB c m N s.th s.ar.length).stk s.ct 1 (s.xs.map natE)
theorem cut_hS {c : Ct} {m : Mc} {N : Nat} {s s' : HS} (h : s.ct ≤ s'.ct) : Cut (hS' c m N s) (hS' c m N s') (hS' c m N s') := by
  unfold hS'
  refine cut_stk rfl h (top_add (top_add (top_add (top_add top_none)))) (by rw [stk_next]; exact Nat.le_refl _) (fun i _ => rfl) (fun i o hi ho => ?_) (fun k => bel_nats k _)
  have ho : (if i = 3 then some (AObj.tok 4 s'.ar.length) else if i = 2 then some (AObj.row 1 (tabL N s'.th) false) else ((Sto.none.add (.box (ctCells c))).add (.box (mcCells m))).get i) = some o := ho
  show (if i = 3 then some (AObj.tok 4 s.ar.length) else if i = 2 then some (AObj.row 1 (tabL N s.th) false) else ((Sto.none.add (.box (ctCells c))).add (.box (mcCells m))).get i) = some o ∨ _
  split at ho
  · cases ho; exact .inr trivial
  · rename_i e3
    rw [if_neg e3]
    split at ho
    · cases ho; exact .inr (of_eq_true (tab_bel _ _ _))
    · rename_i e2
      rw [if_neg e2]; exact .inl ho
theorem cntF_le (f : Nat → Bool) (n : Nat) : cntF' f n ≤ n := by unfold cntF'; exact Nat.le_trans (List.length_filter_le _ _) (by simp)
section
variable {c : Ct} {m : Mc} {N : Nat} {th th' : Nat → Bool} {k k' : Nat}
theorem hB_next : (hB c m N th k).next = 4 := rfl
theorem hB_top : (hB c m N th k).Top := top_add (top_add (top_add (top_add top_none)))
theorem hB_s2 : (hB c m N th k).set 2 (.row 1 (tabL N th') false) = hB c m N th' k := Sto.eta2 (fun i => by
  show (if i = 2 then _ else if i = 3 then _ else if i = 2 then _ else _) = if i = 3 then _ else if i = 2 then _ else _
  by_cases e : i = 2
  · subst e; rfl
  · rw [if_neg e, if_neg e, if_neg e]) rfl
theorem hB_s3 : (hB c m N th k).set 3 (.tok 4 k') = hB c m N th k' := Sto.eta2 (fun i => by
  show (if i = 3 then _ else if i = 3 then _ else _) = if i = 3 then _ else _
  split <;> rfl) rfl
end
theorem orI_nat (x y : Nat) (hx : x < 4096) (hy : y < 4097) : orI .i64 (x : Int) (y : Int) = ((x ||| y : Nat) : Int) := by
  have h : x ||| y < 2 ^ 13 := Nat.or_lt_two_pow (by omega) (by omega)
  unfold orI
  show IntKind.i64.wrap ((BitVec.ofInt 64 (x : Int) ||| BitVec.ofInt 64 (y : Int)).toNat : Int) = _
  rw [BitVec.ofInt_natCast, BitVec.ofInt_natCast, BitVec.toNat_or, BitVec.toNat_ofNat, BitVec.toNat_ofNat, Nat.mod_eq_of_lt (by omega), Nat.mod_eq_of_lt (by omega)]
  exact wrap_lt (by omega) (by omega)
theorem mkN_lt (c : Ct) (z : Nat) : ∀ i, i ≤ 12 → mkN c z i < 4096
  | 0, _ => by show 0 < 4096; decide
  | i + 1, h => by
    have h1 := mkN_lt c z i (by omega)
    have h2 : 2 ^ i < 2 ^ 12 := Nat.pow_lt_pow_right (by decide) (by omega)
    show (if _ then mkN c z i ||| 2 ^ i else mkN c z i) < _
    split
    · exact Nat.or_lt_two_pow (n := 12) h1 h2
    · exact h1
section
variable {gl : GL}
theorem rholds_ok (c : Ct) (m : Mc) (a b s0 l0 : Nat) (hc : CtV c a b) (hf : FitP m a b) (hS : m.ans.length ≤ 200) (hj : c.je.length + c.js.length ≤ 12) (hs0 : s0 < m.ans.length) (hl0 : l0 < 2 ^ (a + b)) :
    PCall (C gl) 24 [encC c, encM m, .int .i64 s0, .int .i64 l0] (.bool (hldB c m a b (s0 * 2 ^ (a + b) + l0))) := by
  refine pcallX (callX_of b24 (by simp [Tryd.ntmps24]) ?_) (by simp only [AllCl, cl_encC, cl_int, and_true, true_and]; exact cl_encM m) (.bool _)
  have p1 := pow2_le 3 hc.a3
  have p2 := pow2_le 3 hc.b3
  have p3 := pow2_le (a := a + b) 6 (by have := hc.a3; have := hc.b3; omega)
  have hin := hc.inn
  have hout := hc.out
  have q1 := shl_one a (by have := hc.a3; omega)
  have q3 := shl_one (a + b) (by have := hc.a3; have := hc.b3; omega)
  have qw := wrap_add_nat a b (by have := hc.a3; have := hc.b3; omega)
  obtain ⟨n, hn⟩ : ∃ n, n = 2 ^ (a + b) := ⟨_, rfl⟩
  obtain ⟨S, hSe⟩ : ∃ S, S = m.ans.length := ⟨_, rfl⟩
  have hn1 : 1 ≤ n := by rw [hn]; exact Nat.one_le_two_pow
  have hn64 : n ≤ 64 := by rw [hn]; exact p3
  have hS20 : S ≤ 200 := by rw [hSe]; exact hS
  have hSn : S * n ≤ 200 * 64 := Nat.mul_le_mul hS20 hn64
  have hx0 : s0 * n + l0 < S * n := by
    have h1 := Nat.mul_le_mul_right n (show s0 + 1 ≤ S by omega)
    rw [Nat.add_mul, Nat.one_mul] at h1; omega
  have w1 : IntKind.i64.wrap ((S : Int) * (n : Int)) = ((S * n : Nat) : Int) := by rw [← Int.natCast_mul]; exact wrap_lt (by omega) (by omega)
  have w2 : IntKind.i64.wrap ((s0 : Int) * (n : Int)) = ((s0 * n : Nat) : Int) := by rw [← Int.natCast_mul]; exact wrap_lt (by omega) (by omega)
  have w3 := wrap_add_nat (s0 * n) l0 (by omega)
  have hA := rows_len m.ans
  have hN := rows_len m.nxt
  rw [← hSe] at hA
  rw [← hn] at q3
  have hr : hldB c m a b (s0 * 2 ^ (a + b) + l0) = hldB c m a b (s0 * n + l0) := by rw [hn]
  rw [hr]
  generalize hx0e : s0 * n + l0 = x0 at *
  generalize hNe : S * n = NN at *
  have z1 : ((0 : Int) ≤ (NN : Int)) = True := by simp
  have z2 : ((NN : Int) ≤ (NN : Int)) = True := by simp
  have z4 : ((NN : Int) ≤ 281474976710656) = True := by simp; omega
  have z5 : ((NN : Int) * 1 ≤ 281474976710656) = True := by simp; omega
  have hst : (List.replicate NN (AV.bool false)).set x0 (.bool true) = tabL NN (startH x0).th := by
    have e : List.replicate NN (AV.bool false) = tabL NN fun _ => false := by
      unfold tabL
      rw [show (fun _ : Nat => AV.bool false) = Function.const Nat (AV.bool false) from rfl, List.map_const, List.length_range]
    rw [e, tab_set]; rfl
  have hrl : (List.replicate NN (AV.bool false)).length = NN := List.length_replicate
  have hnb : Nonempty (PLift (2 ^ a ≤ 8 ∧ 2 ^ b ≤ 8 ∧ n ≤ 64 ∧ S ≤ 200 ∧ NN ≤ 12800 ∧ c.je.length + c.js.length ≤ 12)) := ⟨⟨p1, p2, hn64, hS20, hSn, hj⟩⟩
  clear p1 p2 p3 hn64 hS20 hSn hj hS
  refine W.of ?_
  rw [Tryd.ntmps24]
  simp only [toK, codeOf, Tryd.f24, go_sem, seval, reduceCtorEq]
  have hNN : m.ans.length * 2 ^ (a + b) = NN := by rw [← hSe, ← hn, hNe]
  have hR : hldB c m a b x0 = match runH c m a b (2 * NN + 2) (startH x0) with | none => false | some s => chkH c NN s := by unfold hldB; rw [hNN]
  generalize hldB c m a b x0 = res at *
  generalize hRe : runH c m a b (2 * NN + 2) (startH x0) = R at *
  have H := And.intro @encM_eq (And.intro @hin (And.intro @hout (And.intro @qw (And.intro @q3 (And.intro @w1 (And.intro @w2 (And.intro @w3 (And.intro @hx0 (And.intro @hA (And.intro @z1 (And.intro @z2 (And.intro @z4 (And.intro @z5 (And.intro @hrl (And.intro @hst @Int.toNat_natCast)))))))))))))))
  refine autoA ?_
  repeat' (first | (refine WK.draw0 (ops := #[_, _, _, _, _, _, _, _]) mixed (by kernel_rfl) ?_; refine autoA ?_) | (refine WK.draw0 (id := 26) mixed (by kernel_rfl) ?_; refine autoA ?_) | (refine WK.draw (id := 39) [dq 0 0, dq 0 1, dq 0 1, dq 0 0, dq 0 0, dq 0 0, dq 0 0, dq 0 1, dq 0 1, dq 0 0, dq 0 0, dq 0 0, dm, dm] mixed (by kernel_rfl) ?_; refine autoA ?_))
  try exact trivial
  refine WK.own0 10 4 (by decide) (by simp only [go_sem, seval, reduceCtorEq]) ?_
  refine WK.block ?_
  refine WK.loopX (T := Nat × HS) [4, 5, 9, 11] [10, 12] (fun t => [.own 3 (t.2.ar.map encArc), quA 4 t.2.ct t.2.off [natE x0] (t.2.xs.length - t.2.off)]) (fun t => hS' c m NN t.2) (fun t => runH c m a b t.1 t.2 = R ∧ (∃ P, HInv c m a b NN P t.2) ∧ 2 * cntF' t.2.th NN + t.2.q.length < t.1 ∧ t.2.ar.length + 8 * cntF' t.2.th NN + 8 * t.2.q.length ≤ 8 * NN ∧ (t.2.ct = 0 → t.2.xs = [x0]) ∧ t.2.off ≤ t.2.xs.length) (fun t => t.1) (2 * NN + 2, startH x0) (by decide) ⟨hRe, ⟨_, start_inv hx0⟩, ?_, ?_, fun _ => rfl, Nat.zero_le _⟩ ?_ ?_ ?_
  · have := cntF_le (startH x0).th NN
    show 2 * cntF' (startH x0).th NN + 1 < 2 * NN + 2
    omega
  · have h1 : cntF' (startH x0).th NN + 1 = cntF' (fun _ => false) NN := cnt_set (out := fun _ => false) hx0 rfl
    have h2 := cntF_le (fun _ => false) NN
    show 0 + 8 * cntF' (startH x0).th NN + 8 * 1 ≤ 8 * NN
    omega
  · show leX _ _ [.own 3 [], .list true [natE x0]]
    simp only [natE, go_sem, seval, reduceCtorEq]
  · rfl
  rintro ⟨f, s⟩ ⟨hr1, ⟨P, hP⟩, hfu, hbd, hct, hoff⟩
  simp only at hr1 hP hfu hbd hct hoff
  obtain ⟨f, rfl⟩ : ∃ f', f = f' + 1 := ⟨f - 1, by omega⟩
  have hql : s.q.length = s.xs.length - s.off := List.length_drop
  have hqV : s.ct = 0 ∧ quA 4 s.ct s.off [natE x0] (s.xs.length - s.off) = .list true (s.q.map natE) ∨ quA 4 s.ct s.off [natE x0] (s.xs.length - s.off) = .row (4 + s.ct - 1) s.off (s.q.length) := by
    rcases hz : s.ct with _ | k
    · left
      refine ⟨rfl, ?_⟩
      rw [quA_0]
      unfold HS.q
      rw [hct hz, List.map_drop]; rfl
    · right
      rw [hql]; exact quA_s _ _ _ _ _
  cases hq : s.q with
  | nil =>
    have hRs : R = some s := by rw [← hr1]; unfold runH; rw [hq]
    rw [hq] at hqV
    have hqV : quA 4 s.ct s.off [natE x0] (s.xs.length - s.off) = .list true [] ∨ quA 4 s.ct s.off [natE x0] (s.xs.length - s.off) = .row (4 + s.ct - 1) s.off 0 := hqV.imp (fun h => h.2) id
    generalize quA 4 s.ct s.off [natE x0] (s.xs.length - s.off) = V at *
    have hres : res = chkH c NN s := by rw [hR, hRs]
    clear hr1 hR hRe
    simp only [hq]
    refine WK.seq (WK.seq (WK.joinB [4, 5, 9, 10, 11] [55] [.bool false] (hS' c m NN s) ?_ ?_))
    · rcases hqV with rfl | rfl
      · have H := trivial
        refine autoA ?_
        repeat' (first | (refine WK.draw0 (ops := #[_, _, _, _, _, _, _, _]) mixed (by kernel_rfl) ?_; refine autoA ?_) | (refine WK.draw0 (id := 26) mixed (by kernel_rfl) ?_; refine autoA ?_) | (refine WK.draw (id := 39) [dq 0 0, dq 0 1, dq 0 1, dq 0 0, dq 0 0, dq 0 0, dq 0 0, dq 0 1, dq 0 1, dq 0 0, dq 0 0, dq 0 0, dm, dm] mixed (by kernel_rfl) ?_; refine autoA ?_))
        try exact trivial
      · have H := trivial
        refine autoA ?_
        repeat' (first | (refine WK.draw0 (ops := #[_, _, _, _, _, _, _, _]) mixed (by kernel_rfl) ?_; refine autoA ?_) | (refine WK.draw0 (id := 26) mixed (by kernel_rfl) ?_; refine autoA ?_) | (refine WK.draw (id := 39) [dq 0 0, dq 0 1, dq 0 1, dq 0 0, dq 0 0, dq 0 0, dq 0 0, dq 0 1, dq 0 1, dq 0 0, dq 0 0, dq 0 0, dm, dm] mixed (by kernel_rfl) ?_; refine autoA ?_))
        try exact trivial
    · have hjl := encFs_len c.je
      have hsl := encFs_len c.js
      have hIn : InN NN s.ar := fun e he => by
        obtain ⟨x, i, h1, _, _, h4, rfl⟩ := hP.arc e he
        exact ⟨hP.out _ h1, hP.out _ h4⟩
      obtain ⟨⟨b1, b2, b3, b4, b5, b6⟩⟩ := id hnb
      have hal : s.ar.length < 1000000 := by omega
      have hNN0 : 0 < NN := by omega
      have hcy : ∀ i, Ctr (C gl) 81 [.int .i64 NN, .list false (s.ar.map encArc), .agg [.int .i64 ((2 ^ (c.je.length + i) : Nat) : Int), .int .i64 (((2 ^ c.je.length : Nat) : Int) - 1)]] True (.list false (tabL NN (cycB c NN i s.ar))) := fun i => ⟨fun _ => Cycles_ok _ _ NN s.ar hNN0 (by omega) hal hIn _ _ rfl⟩
      have gS0 : (hS' c m NN s).get 0 = some (.box (ctCells c)) := by unfold hS'; rw [stk_get (show 0 < 4 by decide)]; rfl
      have gS2 : (hS' c m NN s).get 2 = some (.row 1 (tabL NN s.th) false) := by unfold hS'; rw [stk_get (show 2 < 4 by decide)]; rfl
      have gSn : (hS' c m NN s).next = 4 + s.ct := by unfold hS'; rw [stk_next]; rfl
      clear hP hfu hbd hct hoff hIn
      generalize hS' c m NN s = σ at *
      have lt0 : 0 < σ.next := by omega
      have lt2 : 2 < σ.next := by omega
      have nz_0 : (0 = σ.next) = False := by simp; omega
      have nx_0 : ∀ j, (0 = σ.next + j) = False := fun j => by simp; omega
      have nz_2 : (2 = σ.next) = False := by simp; omega
      have nx_2 : ∀ j, (2 = σ.next + j) = False := fun j => by simp; omega
      clear b1 b2 b3 b4 b5 b6 hal gSn hql
      have H := And.intro @nz_0 (And.intro @nx_0 (And.intro @nz_2 (And.intro @nx_2 (And.intro @gS0 (And.intro @hjl (And.intro @hsl @Int.toNat_natCast))))))
      refine autoA ?_
      repeat' (first | (refine WK.draw0 (ops := #[_, _, _, _, _, _, _, _]) mixed (by kernel_rfl) ?_; refine autoA ?_) | (refine WK.draw0 (id := 26) mixed (by kernel_rfl) ?_; refine autoA ?_) | (refine WK.draw (id := 39) [dq 0 0, dq 0 1, dq 0 1, dq 0 0, dq 0 0, dq 0 0, dq 0 0, dq 0 1, dq 0 1, dq 0 0, dq 0 0, dq 0 0, dm, dm] mixed (by kernel_rfl) ?_; refine autoA ?_))
      try exact trivial
      obtain ⟨⟨b1, b2, b3, b4, b5, b6⟩⟩ := id hnb
      refine WK.rangeI (c.js.length) [4, 10, 11] [] (fun i => []) (fun i => σ) (fun i => ∀ t < i, (List.range NN).all (fun x => !(cycB c NN t s.ar x && s.th x)) = true) (by simp) (by omega) (by decide) (by simp only [go_sem, seval, reduceCtorEq, nz_0, nx_0, nz_2, nx_2]) (by simp only [go_sem, seval, reduceCtorEq, nz_0, nx_0, nz_2, nx_2]) (by simp only [go_sem, seval, reduceCtorEq, nz_0, nx_0, nz_2, nx_2, List.take_zero]) (by first | rfl | (simp only [go_sem, seval, reduceCtorEq, nz_0, nx_0, nz_2, nx_2]; done) | (refine Sto.ext' (by simp only [go_sem, seval, reduceCtorEq, nz_0, nx_0, nz_2, nx_2]) (fun i => ?_); simp only [go_sem, seval, reduceCtorEq, nz_0, nx_0, nz_2, nx_2]; repeat' split; all_goals (first | rfl | omega | simp_all))) ?_ ?_
      · intro i hi hI
        have v1 := wrap_add_nat c.je.length i (by omega)
        have v2 := shl_one (c.je.length + i) (by omega)
        have v3 := shl_one c.je.length (by omega)
        have v4 : IntKind.i64.wrap (((2 ^ c.je.length : Nat) : Int) - 1) = ((2 ^ c.je.length : Nat) : Int) - 1 := by
          have h1 := pow2_le (a := c.je.length) 12 (by omega)
          have h2 : 1 ≤ 2 ^ c.je.length := Nat.one_le_two_pow
          rw [show (((2 ^ c.je.length : Nat) : Int) - 1) = ((2 ^ c.je.length - 1 : Nat) : Int) by omega]
          exact wrap_lt (by omega) (by omega)
        have hcyi := hcy i
        have htl := tab_len NN (cycB c NN i s.ar)
        have htl2 := tab_len NN s.th
        have htd : ∀ x, x < NN → cycB c NN i s.ar x = true → s.th x = true → res = false := fun x hx h1 h2 => by
          rw [hres]
          refine Bool.eq_false_iff.2 fun h => ?_
          have h3 := List.all_eq_true.1 (List.all_eq_true.1 h i (List.mem_range.2 hi)) x (List.mem_range.2 hx)
          rw [h1, h2] at h3; cases h3
        clear b1 b2 b3 b4 b5 b6
        have H := And.intro @nz_0 (And.intro @nx_0 (And.intro @nz_2 (And.intro @nx_2 (And.intro @gS0 (And.intro @gS2 (And.intro @hjl (And.intro @hsl (And.intro @v1 (And.intro @v2 (And.intro @v3 (And.intro @v4 (And.intro @htl (And.intro @htl2 (And.intro @hi @Int.toNat_natCast))))))))))))))
        refine autoA ?_
        repeat' (first | (refine WK.draw0 (ops := #[_, _, _, _, _, _, _, _]) mixed (by kernel_rfl) ?_; refine autoA ?_) | (refine WK.draw0 (id := 26) mixed (by kernel_rfl) ?_; refine autoA ?_) | (refine WK.draw (id := 39) [dq 0 0, dq 0 1, dq 0 1, dq 0 0, dq 0 0, dq 0 0, dq 0 0, dq 0 1, dq 0 1, dq 0 0, dq 0 0, dq 0 0, dm, dm] mixed (by kernel_rfl) ?_; refine autoA ?_))
        try exact trivial
        obtain ⟨⟨b1, b2, b3, b4, b5, b6⟩⟩ := id hnb
        refine WK.rangeI (NN) [4, 10, 11, 170, 171, 190] [] (fun x => []) (fun x => (σ.add (.box [.int .i64 ((2 ^ (c.je.length + i) : Nat) : Int), .int .i64 (((2 ^ c.je.length : Nat) : Int) - 1)]))) (fun x => ∀ y < x, (!(cycB c NN i s.ar y && s.th y)) = true) (by simp) (by omega) (by decide) (by simp only [go_sem, seval, reduceCtorEq, nz_0, nx_0, nz_2, nx_2]) (by simp only [go_sem, seval, reduceCtorEq, nz_0, nx_0, nz_2, nx_2]) (by simp only [go_sem, seval, reduceCtorEq, nz_0, nx_0, nz_2, nx_2, List.take_zero]) (by first | rfl | (simp only [go_sem, seval, reduceCtorEq, nz_0, nx_0, nz_2, nx_2]; done) | (refine Sto.ext' (by simp only [go_sem, seval, reduceCtorEq, nz_0, nx_0, nz_2, nx_2]) (fun i => ?_); simp only [go_sem, seval, reduceCtorEq, nz_0, nx_0, nz_2, nx_2]; repeat' split; all_goals (first | rfl | omega | simp_all))) ?_ ?_
        · intro x hx hJ
          have mg := tab_get NN (cycB c NN i s.ar) x hx
          have mt := tab_get NN s.th x hx
          have htx := htd x hx
          clear b1 b2 b3 b4 b5 b6
          cases e1 : cycB c NN i s.ar x with
          | false =>
            rw [e1] at mg
            have H := And.intro @nz_0 (And.intro @nx_0 (And.intro @nz_2 (And.intro @nx_2 (And.intro @gS0 (And.intro @gS2 (And.intro @hx (And.intro @mg (And.intro @htl (And.intro @htl2 @Int.toNat_natCast)))))))))
            refine autoA ?_
            repeat' (first | (refine WK.draw0 (ops := #[_, _, _, _, _, _, _, _]) mixed (by kernel_rfl) ?_; refine autoA ?_) | (refine WK.draw0 (id := 26) mixed (by kernel_rfl) ?_; refine autoA ?_) | (refine WK.draw (id := 39) [dq 0 0, dq 0 1, dq 0 1, dq 0 0, dq 0 0, dq 0 0, dq 0 0, dq 0 1, dq 0 1, dq 0 0, dq 0 0, dq 0 0, dm, dm] mixed (by kernel_rfl) ?_; refine autoA ?_))
            try exact trivial
            intro y hy
            rcases Nat.lt_succ_iff_lt_or_eq.1 hy with h | rfl
            · exact hJ y h
            · rw [e1]; rfl
          | true =>
          cases e2 : s.th x with
          | false =>
            rw [e1] at mg
            rw [e2] at mt
            have H := And.intro @nz_0 (And.intro @nx_0 (And.intro @nz_2 (And.intro @nx_2 (And.intro @gS0 (And.intro @gS2 (And.intro @hx (And.intro @mg (And.intro @mt (And.intro @htl (And.intro @htl2 (And.intro @Int.toNat_natCast @Nat.zero_add)))))))))))
            refine autoA ?_
            repeat' (first | (refine WK.draw0 (ops := #[_, _, _, _, _, _, _, _]) mixed (by kernel_rfl) ?_; refine autoA ?_) | (refine WK.draw0 (id := 26) mixed (by kernel_rfl) ?_; refine autoA ?_) | (refine WK.draw (id := 39) [dq 0 0, dq 0 1, dq 0 1, dq 0 0, dq 0 0, dq 0 0, dq 0 0, dq 0 1, dq 0 1, dq 0 0, dq 0 0, dq 0 0, dm, dm] mixed (by kernel_rfl) ?_; refine autoA ?_))
            try exact trivial
            intro y hy
            rcases Nat.lt_succ_iff_lt_or_eq.1 hy with h | rfl
            · exact hJ y h
            · rw [e1, e2]; rfl
          | true =>
            rw [e1] at mg
            rw [e2] at mt
            have hrf := htx e1 e2
            have H := And.intro @nz_0 (And.intro @nx_0 (And.intro @nz_2 (And.intro @nx_2 (And.intro @gS0 (And.intro @gS2 (And.intro @hx (And.intro @mg (And.intro @mt (And.intro @htl (And.intro @htl2 (And.intro @hrf (And.intro @Int.toNat_natCast @Nat.zero_add))))))))))))
            refine autoA ?_
            repeat' (first | (refine WK.draw0 (ops := #[_, _, _, _, _, _, _, _]) mixed (by kernel_rfl) ?_; refine autoA ?_) | (refine WK.draw0 (id := 26) mixed (by kernel_rfl) ?_; refine autoA ?_) | (refine WK.draw (id := 39) [dq 0 0, dq 0 1, dq 0 1, dq 0 0, dq 0 0, dq 0 0, dq 0 0, dq 0 1, dq 0 1, dq 0 0, dq 0 0, dq 0 0, dm, dm] mixed (by kernel_rfl) ?_; refine autoA ?_))
            try exact trivial
            exact cut_none _
        · intro hJ
          clear b1 b2 b3 b4 b5 b6
          have H := And.intro @nz_0 (And.intro @nx_0 (And.intro @nz_2 @nx_2))
          refine autoA ?_
          repeat' (first | (refine WK.draw0 (ops := #[_, _, _, _, _, _, _, _]) mixed (by kernel_rfl) ?_; refine autoA ?_) | (refine WK.draw0 (id := 26) mixed (by kernel_rfl) ?_; refine autoA ?_) | (refine WK.draw (id := 39) [dq 0 0, dq 0 1, dq 0 1, dq 0 0, dq 0 0, dq 0 0, dq 0 0, dq 0 1, dq 0 1, dq 0 0, dq 0 0, dq 0 0, dm, dm] mixed (by kernel_rfl) ?_; refine autoA ?_))
          try exact trivial
          refine ⟨fun t ht => ?_, cutA⟩
          rcases Nat.lt_succ_iff_lt_or_eq.1 ht with h | rfl
          · exact hI t h
          · exact List.all_eq_true.2 fun x hx => hJ x (List.mem_range.1 hx)
      · intro hI
        have hend : res = true := by rw [hres]; unfold chkH; exact List.all_eq_true.2 fun i hi => hI i (List.mem_range.1 hi)
        clear b1 b2 b3 b4 b5 b6
        have H := And.intro @nz_0 (And.intro @nx_0 (And.intro @nz_2 (And.intro @nx_2 @hend)))
        refine autoA ?_
        repeat' (first | (refine WK.draw0 (ops := #[_, _, _, _, _, _, _, _]) mixed (by kernel_rfl) ?_; refine autoA ?_) | (refine WK.draw0 (id := 26) mixed (by kernel_rfl) ?_; refine autoA ?_) | (refine WK.draw (id := 39) [dq 0 0, dq 0 1, dq 0 1, dq 0 0, dq 0 0, dq 0 0, dq 0 0, dq 0 1, dq 0 1, dq 0 0, dq 0 0, dq 0 0, dm, dm] mixed (by kernel_rfl) ?_; refine autoA ?_))
        try exact trivial
        exact cut_none _
  | cons x r =>
    have hxn : x < NN := hP.out x (hP.q x (by rw [hq]; exact List.mem_cons_self))
    obtain ⟨hpi, hpq⟩ := pop_invH hq hP
    have hrun : R = (stpN c m a b x (popH s) (2 ^ a)).bind (runH c m a b f) := by rw [← hr1]; show (match s.q with | [] => some s | x :: _ => (stpN c m a b x (popH s) (2 ^ a)).bind (runH c m a b f)) = _; rw [hq]
    have hlr : s.q.length = r.length + 1 := by rw [hq]; rfl
    have hV2 : s.ct = 0 ∧ quA 4 s.ct (s.off + 1) [natE x0] (s.xs.length - (s.off + 1)) = .list true (r.map natE) ∨ quA 4 s.ct (s.off + 1) [natE x0] (s.xs.length - (s.off + 1)) = .row (4 + s.ct - 1) (s.off + 1) r.length := by
      rcases hz : s.ct with _ | k
      · left
        refine ⟨rfl, ?_⟩
        rw [quA_0, ← hpq]
        unfold HS.q popH
        simp only
        rw [hct hz, List.map_drop]; rfl
      · right
        rw [show s.xs.length - (s.off + 1) = r.length by omega]; exact quA_s _ _ _ _ _
    have gQ : s.ct ≠ 0 → (hS' c m NN s).get (4 + s.ct - 1) = some (.row 1 (s.xs.map natE) false) := fun h => by
      unfold hS'
      obtain ⟨k, hk⟩ : ∃ k, s.ct = k + 1 := ⟨s.ct - 1, by omega⟩
      rw [hk]
      exact stk_row (σ := hB c m NN s.th s.ar.length)
    have hxat : s.off < s.xs.length ∧ (s.xs.map natE).getD s.off .undef = natE x := by
      have h1 : s.xs.drop s.off = x :: r := hq
      have h2 : s.off < s.xs.length := by omega
      refine ⟨h2, ?_⟩
      rw [List.drop_eq_getElem_cons h2] at h1
      rw [List.getD_eq_getElem?_getD, List.getElem?_map, List.getElem?_eq_getElem h2, (List.cons.inj h1).1]; rfl
    have hqV : s.ct = 0 ∧ quA 4 s.ct s.off [natE x0] (s.xs.length - s.off) = .list true (natE x :: r.map natE) ∨ s.ct ≠ 0 ∧ quA 4 s.ct s.off [natE x0] (s.xs.length - s.off) = .row (4 + s.ct - 1) s.off (r.length + 1) := by
      by_cases hz : s.ct = 0
      · left
        rcases hqV with h | h
        · rw [hq] at h; exact h
        · rw [hz] at h
          have h : quA 4 0 s.off [natE x0] (s.xs.length - s.off) = _ := h
          rw [quA_0] at h; cases h
      · right
        refine ⟨hz, ?_⟩
        rcases hqV with h | h
        · exact absurd h.1 hz
        · rw [hq] at h; exact h
    have hV2 : s.ct = 0 ∧ quA 4 s.ct (s.off + 1) [natE x0] (s.xs.length - (s.off + 1)) = .list true (r.map natE) ∨ s.ct ≠ 0 ∧ quA 4 s.ct (s.off + 1) [natE x0] (s.xs.length - (s.off + 1)) = .row (4 + s.ct - 1) (s.off + 1) r.length := by
      by_cases hz : s.ct = 0
      · left
        rcases hV2 with h | h
        · exact h
        · rw [hz] at h
          have h : quA 4 0 (s.off + 1) [natE x0] (s.xs.length - (s.off + 1)) = _ := h
          rw [quA_0] at h; cases h
      · right
        refine ⟨hz, ?_⟩
        rcases hV2 with h | h
        · exact absurd h.1 hz
        · exact h
    obtain ⟨⟨b1, b2, b3, b4, b5, b6⟩⟩ := id hnb
    have hrl : r.length ≤ 12800 := by omega
    obtain ⟨hoff2, hxat⟩ := hxat
    have hrn : Nonempty (PLift (r.length ≤ 12800)) := ⟨⟨hrl⟩⟩
    have hgt : decide (((r.length + 1 : Nat) : Int) > 0) = true := decide_eq_true (by omega)
    have hl2 : (r.map natE).length + 1 = r.length + 1 := by rw [nat_len]
    generalize hVe : quA 4 s.ct s.off [natE x0] (s.xs.length - s.off) = V at *
    refine WK.seq (WK.seq (WK.joinB [4, 5, 9, 10, 11, 12] [55] [.bool true] (hS' c m NN s) ?_ ?_))
    · clear hfu hbd hct hoff hoff2 hrl b1 b2 b3 b4 b5 b6
      rcases hqV with ⟨hz, rfl⟩ | ⟨hz, rfl⟩
      · have H := And.intro @hl2 @hgt
        refine autoA ?_
        repeat' (first | (refine WK.draw0 (ops := #[_, _, _, _, _, _, _, _]) mixed (by kernel_rfl) ?_; refine autoA ?_) | (refine WK.draw0 (id := 26) mixed (by kernel_rfl) ?_; refine autoA ?_) | (refine WK.draw (id := 39) [dq 0 0, dq 0 1, dq 0 1, dq 0 0, dq 0 0, dq 0 0, dq 0 0, dq 0 1, dq 0 1, dq 0 0, dq 0 0, dq 0 0, dm, dm] mixed (by kernel_rfl) ?_; refine autoA ?_))
        try exact trivial
      · have H := @hgt
        refine autoA ?_
        repeat' (first | (refine WK.draw0 (ops := #[_, _, _, _, _, _, _, _]) mixed (by kernel_rfl) ?_; refine autoA ?_) | (refine WK.draw0 (id := 26) mixed (by kernel_rfl) ?_; refine autoA ?_) | (refine WK.draw (id := 39) [dq 0 0, dq 0 1, dq 0 1, dq 0 0, dq 0 0, dq 0 0, dq 0 0, dq 0 1, dq 0 1, dq 0 0, dq 0 0, dq 0 0, dm, dm] mixed (by kernel_rfl) ?_; refine autoA ?_))
        try exact trivial
    · have H := trivial
      refine ngB ?_
      first | exact trivial | clear H | skip
      refine WK.skip ?_
      rw [andK_normal]
      refine WK.block ?_
      refine WK.seq (WK.joinB [4, 5, 9, 10, 11, 12] [13] [.int .i64 (x : Int)] (hS' c m NN s) ?_ ?_)
      · clear hfu hbd hct hrl b1 b2 b3 b4 b5 b6
        have hx2 : natE x = .int .i64 (x : Int) := rfl
        rcases hqV with ⟨hz, rfl⟩ | ⟨hz, rfl⟩
        · have H := And.intro @hl2 @hx2
          refine autoA ?_
          repeat' (first | (refine WK.draw0 (ops := #[_, _, _, _, _, _, _, _]) mixed (by kernel_rfl) ?_; refine autoA ?_) | (refine WK.draw0 (id := 26) mixed (by kernel_rfl) ?_; refine autoA ?_) | (refine WK.draw (id := 39) [dq 0 0, dq 0 1, dq 0 1, dq 0 0, dq 0 0, dq 0 0, dq 0 0, dq 0 1, dq 0 1, dq 0 0, dq 0 0, dq 0 0, dm, dm] mixed (by kernel_rfl) ?_; refine autoA ?_))
          try exact trivial
        · have gq := gQ hz
          have hml := nat_len s.xs
          have hpos : (0 : Int) < ((r.length + 1 : Nat) : Int) := by omega
          have H := And.intro @gq (And.intro @hxat (And.intro @hx2 (And.intro @hml (And.intro @hpos (And.intro @hoff2 (And.intro @Int.toNat_natCast @Nat.add_zero))))))
          refine autoA ?_
          repeat' (first | (refine WK.draw0 (ops := #[_, _, _, _, _, _, _, _]) mixed (by kernel_rfl) ?_; refine autoA ?_) | (refine WK.draw0 (id := 26) mixed (by kernel_rfl) ?_; refine autoA ?_) | (refine WK.draw (id := 39) [dq 0 0, dq 0 1, dq 0 1, dq 0 0, dq 0 0, dq 0 0, dq 0 0, dq 0 1, dq 0 1, dq 0 0, dq 0 0, dq 0 0, dm, dm] mixed (by kernel_rfl) ?_; refine autoA ?_))
          try exact trivial
      refine WK.seq (WK.joinB [4, 5, 9, 10, 11, 13] [12] [quA 4 s.ct (s.off + 1) [natE x0] (s.xs.length - (s.off + 1))] (hS' c m NN s) ?_ ?_)
      · clear hfu hbd hct hrl b1 b2 b3 b4 b5 b6
        generalize hV2e : quA 4 s.ct (s.off + 1) [natE x0] (s.xs.length - (s.off + 1)) = V2 at *
        rcases hqV with ⟨hz, rfl⟩ | ⟨hz, rfl⟩
        · rcases hV2 with ⟨_, rfl⟩ | ⟨h, _⟩
          · have H := @hl2
            refine autoA ?_
            repeat' (first | (refine WK.draw0 (ops := #[_, _, _, _, _, _, _, _]) mixed (by kernel_rfl) ?_; refine autoA ?_) | (refine WK.draw0 (id := 26) mixed (by kernel_rfl) ?_; refine autoA ?_) | (refine WK.draw (id := 39) [dq 0 0, dq 0 1, dq 0 1, dq 0 0, dq 0 0, dq 0 0, dq 0 0, dq 0 1, dq 0 1, dq 0 0, dq 0 0, dq 0 0, dm, dm] mixed (by kernel_rfl) ?_; refine autoA ?_))
            try exact trivial
            refine ⟨fun y hy => ?_, ?_, bel_nats _ _⟩
            · rcases List.mem_cons.1 hy with rfl | hy
              · rfl
              · obtain ⟨z, _, rfl⟩ := List.mem_map.1 hy; rfl
            · rw [List.take_of_length_le (by rw [nat_len]; exact Nat.le_refl _)]; exact .refl _
          · exact absurd hz h
        · rcases hV2 with ⟨h, _⟩ | ⟨_, rfl⟩
          · exact absurd h hz
          · have gq := gQ hz
            have hml := nat_len s.xs
            have H := And.intro @gq (And.intro @hml (And.intro @Int.toNat_natCast @Nat.add_sub_cancel))
            refine autoA ?_
            repeat' (first | (refine WK.draw0 (ops := #[_, _, _, _, _, _, _, _]) mixed (by kernel_rfl) ?_; refine autoA ?_) | (refine WK.draw0 (id := 26) mixed (by kernel_rfl) ?_; refine autoA ?_) | (refine WK.draw (id := 39) [dq 0 0, dq 0 1, dq 0 1, dq 0 0, dq 0 0, dq 0 0, dq 0 0, dq 0 1, dq 0 1, dq 0 0, dq 0 0, dq 0 0, dm, dm] mixed (by kernel_rfl) ?_; refine autoA ?_))
            try exact trivial
            unfold hS'; rw [stk_next, hB_next]; omega
      · clear hqV hV2 hVe
        have dq : IntKind.i64.wrap ((x : Int).tdiv (n : Int)) = ((x / n : Nat) : Int) := by
          rw [show (x : Int).tdiv (n : Int) = ((x / n : Nat) : Int) from rfl]
          have hd := Nat.div_le_self x n
          generalize x / n = y at hd ⊢
          exact wrap_lt (by omega) (by omega)
        have dr : (x : Int).tmod (n : Int) = ((x % n : Nat) : Int) := rfl
        have dn : ((n : Int) = 0) = False := by simp; omega
        have gS0 : (hS' c m NN s).get 0 = some (.box (ctCells c)) := by unfold hS'; rw [stk_get (show 0 < 4 by decide)]; rfl
        have gSn : (hS' c m NN s).next = 4 + s.ct := by unfold hS'; rw [stk_next]; rfl
        have hjl := encFs_len c.je
        have hsl := encFs_len c.js
        have lt0 : 0 < (hS' c m NN s).next := by omega
        have hnz0 : (0 = (hS' c m NN s).next) = False := by simp; omega
        have hqS : x / n < S := by rw [hn, hSe]; exact quo_lt (by rw [hNN]; exact hxn)
        have hkeep : Nonempty (PLift (2 * cntF' s.th NN + s.q.length < f + 1 ∧ s.ar.length + 8 * cntF' s.th NN + 8 * s.q.length ≤ 8 * NN ∧ s.off < s.xs.length)) := ⟨⟨hfu, hbd, hoff2⟩⟩
        clear hfu hbd hrl b1 b2 b3 b4 b5 b6 gSn hoff hoff2 hql hlr hxn
        have H := And.intro @dq (And.intro @dr (And.intro @dn (And.intro @gS0 (And.intro @hjl @hsl))))
        refine autoA ?_
        repeat' (first | (refine WK.draw0 (ops := #[_, _, _, _, _, _, _, _]) mixed (by kernel_rfl) ?_; refine autoA ?_) | (refine WK.draw0 (id := 26) mixed (by kernel_rfl) ?_; refine autoA ?_) | (refine WK.draw (id := 39) [dq 0 0, dq 0 1, dq 0 1, dq 0 0, dq 0 0, dq 0 0, dq 0 0, dq 0 1, dq 0 1, dq 0 0, dq 0 0, dq 0 0, dm, dm] mixed (by kernel_rfl) ?_; refine autoA ?_))
        try exact trivial
        obtain ⟨⟨b1, b2, b3, b4, b5, b6⟩⟩ := id hnb
        have hmk := fun i hi => mkN_lt c (x % n) i hi
        have hgE : ∀ i (h : i < c.je.length), (encFs c.je).getD i .undef = encF c.je[i] := fun i h => encFs_get c.je i h
        have hgS : ∀ i (h : i < c.js.length), (encFs c.js).getD i .undef = encF c.js[i] := fun i h => encFs_get c.js i h
        have jE : ∀ i (h : i < c.je.length), (jL c).getD i (.mk 0 0 []) = c.je[i] := fun i h => by
          unfold jL; rw [List.getD_eq_getElem?_getD, List.getElem?_append_left h, List.getElem?_eq_getElem h]; rfl
        have jS : ∀ i (h : i < c.js.length), (jL c).getD (c.je.length + i) (.mk 0 0 []) = c.js[i] := fun i h => by
          unfold jL; rw [List.getD_eq_getElem?_getD, List.getElem?_append_right (Nat.le_add_right _ _), Nat.add_sub_cancel_left, List.getElem?_eq_getElem h]; rfl
        have mk0 : mkN c (x % n) 0 = 0 := rfl
        have mkT : ∀ i, holdsF (x % n : Nat) (x % n : Nat) ((jL c).getD i (.mk 0 0 [])) = true → mkN c (x % n) (i + 1) = mkN c (x % n) i ||| 2 ^ i := fun i h => if_pos h
        have mkF : ∀ i, holdsF (x % n : Nat) (x % n : Nat) ((jL c).getD i (.mk 0 0 [])) = false → mkN c (x % n) (i + 1) = mkN c (x % n) i := fun i h => if_neg (by rw [h]; exact Bool.false_ne_true)
        generalize hze : x % n = z at *
        generalize hqe : x / n = qq at *
        have hmz : ((mkN c z 0 : Nat) : Int) = 0 := by rw [mk0]; rfl
        refine WK.rangeX (c.je.length) [4, 5, 9, 10, 11, 12, 13, 14, 15, 68] [16] (fun i => [.int .i64 (mkN c z i : Nat)]) (fun i => (hS' c m NN s)) (by omega) (by decide) (by simp only [go_sem, seval, reduceCtorEq, hmz]) (by simp only [go_sem, seval, reduceCtorEq, hmz]) (by simp only [go_sem, seval, reduceCtorEq, hmz, List.take_zero]) (by first | rfl | (simp only [go_sem, seval, reduceCtorEq, hmz]; done) | (refine Sto.ext' (by simp only [go_sem, seval, reduceCtorEq, hmz]) (fun i => ?_); simp only [go_sem, seval, reduceCtorEq, hmz]; repeat' split; all_goals (first | rfl | omega | simp_all))) ?_ ?_
        · intro i hi
          have hw := hc.tje _ (List.getElem_mem hi)
          have htr : Ctr (C gl) 78 [encF c.je[i], .int .i64 z, .int .i64 z] True (.bool (holdsF z z c.je[i])) := ⟨fun _ => true_ok _ hw _ _⟩
          have mg := hgE i hi
          rw [encF_eq] at mg
          have v1 := shl_one i (by omega)
          have mt := mkT i
          have mf := mkF i
          rw [jE i hi] at mt mf
          have mo := orI_nat (mkN c z i) (2 ^ i) (hmk i (by omega)) (Nat.lt_of_le_of_lt (pow2_le (a := i) 12 (by omega)) (by decide))
          clear b1 b2 b3 b4 b5 b6
          cases e : holdsF z z c.je[i] with
          | true =>
            have mt := mt e
            rw [e] at htr
            have H := And.intro @hi (And.intro @mg (And.intro @hjl (And.intro @v1 (And.intro @mo (And.intro @mt @Int.toNat_natCast)))))
            refine autoA ?_
            repeat' (first | (refine WK.draw0 (ops := #[_, _, _, _, _, _, _, _]) mixed (by kernel_rfl) ?_; refine autoA ?_) | (refine WK.draw0 (id := 26) mixed (by kernel_rfl) ?_; refine autoA ?_) | (refine WK.draw (id := 39) [dq 0 0, dq 0 1, dq 0 1, dq 0 0, dq 0 0, dq 0 0, dq 0 0, dq 0 1, dq 0 1, dq 0 0, dq 0 0, dq 0 0, dm, dm] mixed (by kernel_rfl) ?_; refine autoA ?_))
            try exact trivial
            exact cutA
          | false =>
            have mf := mf e
            rw [e] at htr
            have H := And.intro @hi (And.intro @mg (And.intro @hjl (And.intro @mf @Int.toNat_natCast)))
            refine autoA ?_
            repeat' (first | (refine WK.draw0 (ops := #[_, _, _, _, _, _, _, _]) mixed (by kernel_rfl) ?_; refine autoA ?_) | (refine WK.draw0 (id := 26) mixed (by kernel_rfl) ?_; refine autoA ?_) | (refine WK.draw (id := 39) [dq 0 0, dq 0 1, dq 0 1, dq 0 0, dq 0 0, dq 0 0, dq 0 0, dq 0 1, dq 0 1, dq 0 0, dq 0 0, dq 0 0, dm, dm] mixed (by kernel_rfl) ?_; refine autoA ?_))
            try exact trivial
            exact cutA
        · have hmz2 : mkN c z c.je.length = mkN c z (c.je.length + 0) := rfl
          clear b1 b2 b3 b4 b5 b6
          have H := And.intro @gS0 (And.intro @hjl @hsl)
          refine autoA ?_
          repeat' (first | (refine WK.draw0 (ops := #[_, _, _, _, _, _, _, _]) mixed (by kernel_rfl) ?_; refine autoA ?_) | (refine WK.draw0 (id := 26) mixed (by kernel_rfl) ?_; refine autoA ?_) | (refine WK.draw (id := 39) [dq 0 0, dq 0 1, dq 0 1, dq 0 0, dq 0 0, dq 0 0, dq 0 0, dq 0 1, dq 0 1, dq 0 0, dq 0 0, dq 0 0, dm, dm] mixed (by kernel_rfl) ?_; refine autoA ?_))
          try exact trivial
          obtain ⟨⟨b1, b2, b3, b4, b5, b6⟩⟩ := id hnb
          refine WK.rangeX (c.js.length) [4, 5, 9, 10, 11, 12, 13, 14, 15, 85] [16] (fun i => [.int .i64 (mkN c z (c.je.length + i) : Nat)]) (fun i => (hS' c m NN s)) (by omega) (by decide) (by simp only [go_sem, seval, reduceCtorEq, Nat.add_zero]) (by simp only [go_sem, seval, reduceCtorEq, Nat.add_zero]) (by simp only [go_sem, seval, reduceCtorEq, Nat.add_zero, List.take_zero]) (by first | rfl | (simp only [go_sem, seval, reduceCtorEq, Nat.add_zero]; done) | (refine Sto.ext' (by simp only [go_sem, seval, reduceCtorEq, Nat.add_zero]) (fun i => ?_); simp only [go_sem, seval, reduceCtorEq, Nat.add_zero]; repeat' split; all_goals (first | rfl | omega | simp_all))) ?_ ?_
          · intro i hi
            have hw := hc.tjs _ (List.getElem_mem hi)
            have htr : Ctr (C gl) 78 [encF c.js[i], .int .i64 z, .int .i64 z] True (.bool (holdsF z z c.js[i])) := ⟨fun _ => true_ok _ hw _ _⟩
            have mg := hgS i hi
            rw [encF_eq] at mg
            have v0 := wrap_add_nat c.je.length i (by omega)
            have v1 := shl_one (c.je.length + i) (by omega)
            have mt : _ → mkN c z (c.je.length + (i + 1)) = _ := mkT (c.je.length + i)
            have mf : _ → mkN c z (c.je.length + (i + 1)) = _ := mkF (c.je.length + i)
            rw [jS i hi] at mt mf
            have mo := orI_nat (mkN c z (c.je.length + i)) (2 ^ (c.je.length + i)) (hmk (c.je.length + i) (by omega)) (Nat.lt_of_le_of_lt (pow2_le (a := c.je.length + i) 12 (by omega)) (by decide))
            clear b1 b2 b3 b4 b5 b6
            cases e : holdsF z z c.js[i] with
            | true =>
              have mt := mt e
              rw [e] at htr
              have H := And.intro @hi (And.intro @mg (And.intro @gS0 (And.intro @hnz0 (And.intro @hjl (And.intro @hsl (And.intro @v0 (And.intro @v1 (And.intro @mo (And.intro @mt @Int.toNat_natCast)))))))))
              refine autoA ?_
              repeat' (first | (refine WK.draw0 (ops := #[_, _, _, _, _, _, _, _]) mixed (by kernel_rfl) ?_; refine autoA ?_) | (refine WK.draw0 (id := 26) mixed (by kernel_rfl) ?_; refine autoA ?_) | (refine WK.draw (id := 39) [dq 0 0, dq 0 1, dq 0 1, dq 0 0, dq 0 0, dq 0 0, dq 0 0, dq 0 1, dq 0 1, dq 0 0, dq 0 0, dq 0 0, dm, dm] mixed (by kernel_rfl) ?_; refine autoA ?_))
              try exact trivial
              exact cutA
            | false =>
              have mf := mf e
              rw [e] at htr
              have H := And.intro @hi (And.intro @mg (And.intro @gS0 (And.intro @hjl (And.intro @hsl (And.intro @mf @Int.toNat_natCast)))))
              refine autoA ?_
              repeat' (first | (refine WK.draw0 (ops := #[_, _, _, _, _, _, _, _]) mixed (by kernel_rfl) ?_; refine autoA ?_) | (refine WK.draw0 (id := 26) mixed (by kernel_rfl) ?_; refine autoA ?_) | (refine WK.draw (id := 39) [dq 0 0, dq 0 1, dq 0 1, dq 0 0, dq 0 0, dq 0 0, dq 0 0, dq 0 1, dq 0 1, dq 0 0, dq 0 0, dq 0 0, dm, dm] mixed (by kernel_rfl) ?_; refine autoA ?_))
              try exact trivial
              exact cutA
          · have hmL : mkN c z (c.je.length + c.js.length) = mkN c z (jL c).length := by unfold jL; rw [List.length_append]
            rw [hmL]
            obtain ⟨g, hg⟩ : ∃ g : Nat → HS, ∀ i, g i = (stpN c m a b x (popH s) i).getD (popH s) := ⟨_, fun _ => rfl⟩
            have hg0 : g 0 = popH s := by rw [hg]; rfl
            have hX0 : hS' c m NN (g 0) = hS' c m NN s := by rw [hg0]; rfl
            have hV0 : quA 4 (g 0).ct (g 0).off [natE x0] ((g 0).xs.length - (g 0).off) = quA 4 s.ct (s.off + 1) [natE x0] (s.xs.length - (s.off + 1)) := by rw [hg0]; rfl
            have hA0 : (g 0).ar = s.ar := by rw [hg0]; rfl
            have hI0 : stpN c m a b x (popH s) 0 = some (g 0) := by rw [hg0]; rfl
            rw [← hX0, ← hV0, ← hA0]
            have gS0' : (hS' c m NN (g 0)).get 0 = some (.box (ctCells c)) := by rw [hX0]; exact gS0
            clear b1 b2 b3 b4 b5 b6
            have H := And.intro @gS0' (And.intro @hin @q1)
            refine autoA ?_
            repeat' (first | (refine WK.draw0 (ops := #[_, _, _, _, _, _, _, _]) mixed (by kernel_rfl) ?_; refine autoA ?_) | (refine WK.draw0 (id := 26) mixed (by kernel_rfl) ?_; refine autoA ?_) | (refine WK.draw (id := 39) [dq 0 0, dq 0 1, dq 0 1, dq 0 0, dq 0 0, dq 0 0, dq 0 0, dq 0 1, dq 0 1, dq 0 0, dq 0 0, dq 0 0, dm, dm] mixed (by kernel_rfl) ?_; refine autoA ?_))
            try exact trivial
            obtain ⟨⟨b1, b2, b3, b4, b5, b6⟩⟩ := id hnb
            refine rangeAI (2 ^ a) [4, 5, 9, 11, 13, 14, 15, 16] [10, 12] (fun i => [.own 3 ((g i).ar.map encArc), quA 4 (g i).ct (g i).off [natE x0] ((g i).xs.length - (g i).off)]) (fun i => hS' c m NN (g i)) (fun i => stpN c m a b x (popH s) i = some (g i)) (hI0 := hI0) ?_ ?_
            · intro i hi hI
              have ha3 := hc.a3
              have hqS2 : qq < m.ans.length := by rw [← hSe]; exact hqS
              have hrow := hf.rows (qq) hqS2
              have hce := hrow.cells i hi
              obtain ⟨A, hAe⟩ := Int.eq_ofNat_of_zero_le hce.a0
              obtain ⟨Y, hYe⟩ := Int.eq_ofNat_of_zero_le hce.n0
              have hA1 : A < 2 ^ b := by have := hce.a1; rw [hAe] at this; omega
              have hY1 : Y < S := by have := hce.n1; rw [hYe] at this; omega
              have gA := rows_get m.ans (qq) hqS2
              have gN := rows_get m.nxt (qq) (by rw [hf.nl]; exact hqS2)
              have rA := row_len (m.ans.getD (qq) [])
              have rN := row_len (m.nxt.getD (qq) [])
              rw [hrow.al] at rA
              rw [hrow.nl] at rN
              have ra : ((m.ans.getD (qq) []).map fun x => AV.int .i64 x).getD i .undef = .int .i64 (A : Int) := by
                rw [row_get _ i (by rw [hrow.al]; exact hi)]; exact congrArg _ hAe
              have rn : ((m.nxt.getD (qq) []).map fun x => AV.int .i64 x).getD i .undef = .int .i64 (Y : Int) := by
                rw [row_get _ i (by rw [hrow.nl]; exact hi)]; exact congrArg _ hYe
              have hAm : A * 2 ^ a ≤ 8 * 8 := Nat.mul_le_mul (by omega) (by omega)
              have sA := shl_mul A a (by omega) (by omega)
              have sw := wrap_add_nat i (A * 2 ^ a) (by omega)
              have hkn : i + A * 2 ^ a < n := by rw [hn]; exact idx_lt hi hA1
              have hlt0 : ltM m a (qq) i = i + A * 2 ^ a := by unfold ltM; rw [hAe]; rfl
              generalize hkk : i + A * 2 ^ a = kk at *
              have hse : seB c m a b x i = holdsF z kk c.se := by unfold seB; rw [← hn, hze, hqe, hlt0]
              have hss : ssB c m a b x i = holdsF z kk c.ss := by unfold ssB; rw [← hn, hze, hqe, hlt0]
              have hYm : (Y + 1) * n ≤ S * n := Nat.mul_le_mul_right n hY1
              rw [Nat.add_mul, Nat.one_mul, hNe] at hYm
              have w4 : IntKind.i64.wrap ((Y : Int) * (n : Int)) = ((Y * n : Nat) : Int) := by
                rw [← Int.natCast_mul]
                have hb : Y * n ≤ 12800 := by omega
                generalize Y * n = w at hb ⊢
                exact wrap_lt (by omega) (by omega)
              have w5 := wrap_add_nat (Y * n) kk (by omega)
              have hnx : nxM m a b (qq) i = Y * n + kk := by unfold nxM; rw [hYe, hlt0, ← hn]; rfl
              have hyN : Y * n + kk < NN := by omega
              generalize hy : Y * n + kk = y at *
              have hstep : stpN c m a b x (popH s) (i + 1) = stpH c m a b x i (g i) := by
                show (stpN c m a b x (popH s) i).bind _ = _
                rw [hI]; rfl
              have hstp : stpH c m a b x i (g i) = if holdsF z kk c.se = false then some (g i) else if holdsF z kk c.ss = false then none else some (pushH (addH c m a b x i (g i)) y) := by
                unfold stpH; rw [hse, hss, ← hn, hqe, hnx]
              have hgs := hg (i + 1)
              rw [hstep, hstp] at hgs
              have hIs : holdsF z kk c.se = false ∨ holdsF z kk c.ss = true → stpN c m a b x (popH s) (i + 1) = some (g (i + 1)) := fun h => by
                rw [hgs, hstep, hstp]
                rcases h with h | h
                · rw [if_pos h]; rfl
                · by_cases h2 : holdsF z kk c.se = false
                  · rw [if_pos h2]; rfl
                  · rw [if_neg h2, if_neg (by rw [h]; decide)]; rfl
              have G0 : (hS' c m NN (g i)).get 0 = some (.box (ctCells c)) := by unfold hS'; rw [stk_get (show 0 < 4 by decide)]; rfl
              have G1 : (hS' c m NN (g i)).get 1 = some (.box [.int .i64 m.inn, .int .i64 m.out, .list false (m.ans.map intL), .list false (m.nxt.map intL)]) := by unfold hS'; rw [stk_get (show 1 < 4 by decide)]; rfl
              have tse : Ctr (C gl) 78 [encF c.se, .int .i64 z, .int .i64 kk] True (.bool (holdsF z kk c.se)) := ⟨fun _ => true_ok _ hc.tse _ _⟩
              have tss : Ctr (C gl) 78 [encF c.ss, .int .i64 z, .int .i64 kk] True (.bool (holdsF z kk c.ss)) := ⟨fun _ => true_ok _ hc.tss _ _⟩
              have hSl : m.ans.length = S := hSe.symm
              have hSl2 : m.nxt.length = S := by rw [hf.nl]; exact hSl
              rw [hSl2] at hN
              have hpi2 : SInvH c m a b (m.ans.length * 2 ^ (a + b)) P x 0 (popH s) := by rw [hNN]; exact hpi
              obtain ⟨i1, i2, i3⟩ := stpN_inv hf hpi2 i (Nat.le_of_lt hi) _ hI
              have harl : (g i).ar.length ≤ 200000 := by
                obtain ⟨⟨hfu, hbd, hoff2⟩⟩ := id hkeep
                have i3 : (g i).ar.length ≤ s.ar.length + i := i3
                omega
              rw [hNN] at i1 i2
              have hqk : QOK x0 (popH s) := ⟨hct, by
                obtain ⟨⟨hfu, hbd, hoff2⟩⟩ := id hkeep
                show s.off + 1 ≤ s.xs.length; omega⟩
              obtain ⟨k1, k2⟩ := stpN_qok hqk _ _ hI
              have hgql : (g i).q.length ≤ 40000 := by
                obtain ⟨⟨hfu, hbd, hoff2⟩⟩ := id hkeep
                rw [hpq] at i2
                have i2 : cntF' (g i).th NN + (g i).q.length = cntF' s.th NN + r.length := i2
                have hlr2 : s.q.length = r.length + 1 := by rw [hq]; rfl
                omega
              have hgl : (g i).q.length = (g i).xs.length - (g i).off := List.length_drop
              have hoffg := k1.off
              have hctg := k1.ct
              have harr : Nonempty (PLift ((g i).ar.length ≤ 200000 ∧ (g i).q.length ≤ 40000 ∧ (g i).off ≤ (g i).xs.length)) := ⟨⟨harl, hgql, hoffg⟩⟩
              have harc : arcH c m a b x i = ⟨x, y, (mkN c z (jL c).length : Nat), 0⟩ := by unfold arcH; rw [← hn, hqe, hze, hnx]
              have htn : (hS' c m NN (g i)).next = 4 + (g i).ct := by unfold hS'; rw [stk_next]; rfl
              have htn2 : (hS' c m NN (addH c m a b x i (g i))).next = 4 + (g i).ct := by unfold hS'; rw [stk_next]; rfl
              have G3t : (hS' c m NN (g i)).get 3 = some (.tok 4 (g i).ar.length) := by unfold hS'; rw [stk_get (show 3 < 4 by decide)]; rfl
              have hst3 : (hS' c m NN (g i)).set 3 (.tok 4 ((g i).ar.length + 1)) = hS' c m NN (addH c m a b x i (g i)) := by
                unfold hS'
                rw [stk_set (show 3 < 4 by decide), hB_s3]
                show _ = (hB c m NN (g i).th ((g i).ar ++ [arcH c m a b x i]).length).stk _ _ _
                rw [List.length_append]; rfl
              have G20 : (hS' c m NN (addH c m a b x i (g i))).get 2 = some (.row 1 (tabL NN (g i).th) false) := by unfold hS'; rw [stk_get (show 2 < 4 by decide)]; rfl
              have hml : ((g i).ar.map encArc).length = (g i).ar.length := List.length_map ..
              have hok : OKEs 4 ((g i).ar.map encArc) = True := eq_true (okes_map fun _ => by simp only [encArc, go_sem, seval, reduceCtorEq])
              have hap : (g i).ar.map encArc ++ [AV.agg [.int .i64 (x : Int), .int .i64 (y : Int), .int .i64 ((mkN c z (jL c).length : Nat) : Int), .int .i64 0]] = (addH c m a b x i (g i)).ar.map encArc := by
                show _ = ((g i).ar ++ [arcH c m a b x i]).map encArc
                rw [harc, List.map_append]; rfl
              have ty := tab_get NN (g i).th y hyN
              have tyl := tab_len NN (g i).th
              have tys := tab_set NN (g i).th y true
              have hyNN : y < NN := hyN
              clear b1 b2 b3 b4 b5 b6 hAm hkn hYm hyN hA1 hY1 ha3 harl hgql hgl hoffg
              cases e1 : holdsF z kk c.se with
              | false =>
                have hg1 : g (i + 1) = g i := by rw [hgs, if_pos e1]; rfl
                have hI1 := hIs (.inl e1)
                rw [e1] at tse
                have H := And.intro @G0 (And.intro @G1 (And.intro @hA (And.intro @hN (And.intro @gA (And.intro @gN (And.intro @rA (And.intro @rN (And.intro @ra (And.intro @rn (And.intro @hqS (And.intro @hi (And.intro @hin (And.intro @sA (And.intro @sw (And.intro @hkk (And.intro @hg1 @Int.toNat_natCast))))))))))))))))
                refine autoA ?_
                repeat' (first | (refine WK.draw0 (ops := #[_, _, _, _, _, _, _, _]) mixed (by kernel_rfl) ?_; refine autoA ?_) | (refine WK.draw0 (id := 26) mixed (by kernel_rfl) ?_; refine autoA ?_) | (refine WK.draw (id := 39) [dq 0 0, dq 0 1, dq 0 1, dq 0 0, dq 0 0, dq 0 0, dq 0 0, dq 0 1, dq 0 1, dq 0 0, dq 0 0, dq 0 0, dm, dm] mixed (by kernel_rfl) ?_; refine autoA ?_))
                try exact trivial
                rw [hg1] at hI1
                have G3 : (hS' c m NN (g i)).next = 4 + (g i).ct := by unfold hS'; rw [stk_next]; rfl
                exact ⟨hI1, by omega, bel_quA (q0 := [x0]) (by omega)⟩
              | true =>
              cases e2 : holdsF z kk c.ss with
              | false =>
                rw [e1] at tse
                rw [e2] at tss
                have hrf : res = false := by
                  have h1 : stpN c m a b x (popH s) (i + 1) = none := by rw [hstep, hstp, if_neg (by rw [e1]; decide), if_pos e2]
                  rw [hR, hrun, stpN_none h1 (2 ^ a) (by omega)]; rfl
                have H := And.intro @G0 (And.intro @G1 (And.intro @hA (And.intro @hN (And.intro @gA (And.intro @gN (And.intro @rA (And.intro @rN (And.intro @ra (And.intro @rn (And.intro @hqS (And.intro @hi (And.intro @hin (And.intro @sA (And.intro @sw (And.intro @hkk (And.intro @hrf @Int.toNat_natCast))))))))))))))))
                refine autoA ?_
                repeat' (first | (refine WK.draw0 (ops := #[_, _, _, _, _, _, _, _]) mixed (by kernel_rfl) ?_; refine autoA ?_) | (refine WK.draw0 (id := 26) mixed (by kernel_rfl) ?_; refine autoA ?_) | (refine WK.draw (id := 39) [dq 0 0, dq 0 1, dq 0 1, dq 0 0, dq 0 0, dq 0 0, dq 0 0, dq 0 1, dq 0 1, dq 0 0, dq 0 0, dq 0 0, dm, dm] mixed (by kernel_rfl) ?_; refine autoA ?_))
                try exact trivial
                exact cut_none _
              | true =>
                have hI1 := hIs (.inr e2)
                have hg1 : g (i + 1) = pushH (addH c m a b x i (g i)) y := by rw [hgs, if_neg (by rw [e1]; decide), if_neg (by rw [e2]; decide)]; rfl
                rw [e1] at tse
                rw [e2] at tss
                have H := And.intro @G0 (And.intro @G1 (And.intro @hA (And.intro @hN (And.intro @gA (And.intro @gN (And.intro @rA (And.intro @rN (And.intro @ra (And.intro @rn (And.intro @hqS (And.intro @hi (And.intro @hin (And.intro @sA (And.intro @sw (And.intro @hkk (And.intro @w4 (And.intro @w5 (And.intro @hy @Int.toNat_natCast))))))))))))))))))
                refine autoA ?_
                repeat' (first | (refine WK.draw0 (ops := #[_, _, _, _, _, _, _, _]) mixed (by kernel_rfl) ?_; refine autoA ?_) | (refine WK.draw0 (id := 26) mixed (by kernel_rfl) ?_; refine autoA ?_) | (refine WK.draw (id := 39) [dq 0 0, dq 0 1, dq 0 1, dq 0 0, dq 0 0, dq 0 0, dq 0 0, dq 0 1, dq 0 1, dq 0 0, dq 0 0, dq 0 0, dm, dm] mixed (by kernel_rfl) ?_; refine autoA ?_))
                try exact trivial
                obtain ⟨⟨harl, hgql, hoffg⟩⟩ := id harr
                have H := And.intro @hml (And.intro @hok @G3t)
                refine appB ?_
                first | exact trivial | clear H | skip
                clear harl hgql hoffg
                rw [hap]
                cases e3 : (g i).th y with
                | true =>
                  rw [e3] at ty
                  have hg2 : g (i + 1) = addH c m a b x i (g i) := by rw [hg1]; unfold pushH; rw [if_pos (show (addH c m a b x i (g i)).th y = true from e3)]
                  have H := And.intro @hst3 (And.intro @G20 (And.intro @ty (And.intro @tyl (And.intro @hyNN (And.intro @hg2 (And.intro @Int.toNat_natCast @Nat.zero_add))))))
                  refine autoA ?_
                  repeat' (first | (refine WK.draw0 (ops := #[_, _, _, _, _, _, _, _]) mixed (by kernel_rfl) ?_; refine autoA ?_) | (refine WK.draw0 (id := 26) mixed (by kernel_rfl) ?_; refine autoA ?_) | (refine WK.draw (id := 39) [dq 0 0, dq 0 1, dq 0 1, dq 0 0, dq 0 0, dq 0 0, dq 0 0, dq 0 1, dq 0 1, dq 0 0, dq 0 0, dq 0 0, dm, dm] mixed (by kernel_rfl) ?_; refine autoA ?_))
                  try exact trivial
                  rw [hg2] at hI1
                  exact ⟨hI1, ⟨by rw [htn2]; omega, .refl _, bel_quA (q0 := [x0]) (by rw [htn2]; exact Nat.le_refl _)⟩, cut_hS (Nat.le_refl _)⟩
                | false =>
                  rw [e3] at ty
                  have H := And.intro @hst3 (And.intro @G20 (And.intro @ty (And.intro @tyl (And.intro @tys (And.intro @hyNN (And.intro @Int.toNat_natCast @Nat.zero_add))))))
                  refine autoA ?_
                  repeat' (first | (refine WK.draw0 (ops := #[_, _, _, _, _, _, _, _]) mixed (by kernel_rfl) ?_; refine autoA ?_) | (refine WK.draw0 (id := 26) mixed (by kernel_rfl) ?_; refine autoA ?_) | (refine WK.draw (id := 39) [dq 0 0, dq 0 1, dq 0 1, dq 0 0, dq 0 0, dq 0 0, dq 0 0, dq 0 1, dq 0 1, dq 0 0, dq 0 0, dq 0 0, dm, dm] mixed (by kernel_rfl) ?_; refine autoA ?_))
                  try exact trivial
                  obtain ⟨⟨harl, hgql, hoffg⟩⟩ := id harr
                  have hgl : (g i).q.length = (g i).xs.length - (g i).off := List.length_drop
                  have hst2 : (hS' c m NN (addH c m a b x i (g i))).set 2 (.row 1 (tabL NN fun j => if j = y then true else (g i).th j) false) = (hB c m NN (fun j => if j = y then true else (g i).th j) (addH c m a b x i (g i)).ar.length).stk (g i).ct 1 ((g i).xs.map natE) := by
                    unfold hS'
                    rw [stk_set (show 2 < 4 by decide), hB_s2]; rfl
                  rw [hst2]
                  have hg3 : g (i + 1) = ⟨fun j => if j = y then true else (g i).th j, (g i).xs.drop (g i).off ++ [y], 0, (g i).ct + 1, (addH c m a b x i (g i)).ar⟩ := by
                    rw [hg1]; unfold pushH; rw [if_neg (show ¬ (addH c m a b x i (g i)).th y = true from by rw [show (addH c m a b x i (g i)).th y = (g i).th y from rfl, e3]; decide)]; rfl
                  have hfin : (hB c m NN (fun j => if j = y then true else (g i).th j) (addH c m a b x i (g i)).ar.length).stk ((g i).ct + 1) 1 (((g i).xs.map natE).drop (g i).off ++ [AV.int .i64 (y : Int)]) = hS' c m NN (g (i + 1)) := by
                    rw [hg3]; unfold hS'; simp only [List.map_append, List.map_drop]; rfl
                  have hfv : quA (hB c m NN (fun j => if j = y then true else (g i).th j) (addH c m a b x i (g i)).ar.length).next ((g i).ct + 1) 0 [natE x0] (((g i).xs.map natE).length - (g i).off + [AV.int .i64 (y : Int)].length) = quA 4 (g (i + 1)).ct (g (i + 1)).off [natE x0] ((g (i + 1)).xs.length - (g (i + 1)).off) := by
                    rw [hg3, hB_next]
                    show _ = quA 4 ((g i).ct + 1) 0 [natE x0] (((g i).xs.drop (g i).off ++ [y]).length - 0)
                    rw [nat_len, List.length_append, List.length_drop]; rfl
                  have har2 : (addH c m a b x i (g i)).ar = (g (i + 1)).ar := by rw [hg3]
                  have hgn2 : (hS' c m NN (g (i + 1))).next = 4 + ((g i).ct + 1) := by rw [hg3]; unfold hS'; rw [stk_next]; rfl
                  have hgc : (g (i + 1)).ct = (g i).ct + 1 := by rw [hg3]
                  refine appK_qu (σ := hB c m NN (fun j => if j = y then true else (g i).th j) (addH c m a b x i (g i)).ar.length) (f := true) (c := (g i).ct) (off := (g i).off) (es := 1) (q0 := [natE x0]) (xs := (g i).xs.map natE) (ys := [.int .i64 (y : Int)]) (by first | (simp only [go_sem, seval, reduceCtorEq]; done) | (simp only [go_sem, seval, reduceCtorEq]; rfl)) (by kernel_rfl) (by simp only [go_sem, seval, reduceCtorEq, hB_next, nat_len]) hB_top (by rw [nat_len]; exact hoffg) (fun h => by rw [hctg h]; rfl) (okes_map fun _ => by simp only [natE, go_sem, seval, reduceCtorEq]) (by first | (simp only [go_sem, seval, reduceCtorEq]; done) | (simp only [go_sem, seval, reduceCtorEq]; rfl)) (by first | (simp only [go_sem, seval, reduceCtorEq]; done) | (simp only [go_sem, seval, reduceCtorEq]; rfl)) (by simp only [go_sem, seval, reduceCtorEq]) (by simp) (by kernel_rfl) (by simp only [go_sem, seval, reduceCtorEq, List.length_cons, List.length_nil, nat_len]; omega) (by simp only [go_sem, seval, reduceCtorEq, List.length_cons, List.length_nil, nat_len]; omega) ?_
                  rw [hfin, hfv, har2]
                  clear harl hgql hoffg hgl hst2 hfin hfv
                  have H := trivial
                  refine autoA ?_
                  repeat' (first | (refine WK.draw0 (ops := #[_, _, _, _, _, _, _, _]) mixed (by kernel_rfl) ?_; refine autoA ?_) | (refine WK.draw0 (id := 26) mixed (by kernel_rfl) ?_; refine autoA ?_) | (refine WK.draw (id := 39) [dq 0 0, dq 0 1, dq 0 1, dq 0 0, dq 0 0, dq 0 0, dq 0 0, dq 0 1, dq 0 1, dq 0 0, dq 0 0, dq 0 0, dm, dm] mixed (by kernel_rfl) ?_; refine autoA ?_))
                  try exact trivial
                  exact ⟨⟨by rw [hgn2]; omega, bel_quA (q0 := [x0]) (by rw [hgn2, hgc]; exact Nat.le_refl _)⟩, cut_hS (by rw [hgc]; exact Nat.le_succ _)⟩
            · intro hI
              obtain ⟨⟨hfu, hbd, hoff2⟩⟩ := hkeep
              have hqk : QOK x0 (popH s) := ⟨hct, by show s.off + 1 ≤ s.xs.length; omega⟩
              obtain ⟨k1, k2⟩ := stpN_qok hqk _ _ hI
              have hpi2 : SInvH c m a b (m.ans.length * 2 ^ (a + b)) P x 0 (popH s) := by rw [hNN]; exact hpi
              obtain ⟨i1, i2, i3⟩ := stpN_inv hf hpi2 (2 ^ a) (Nat.le_refl _) _ hI
              rw [hNN] at i1 i2
              have hcm := cntF_mono (stpN_mono (2 ^ a) _ hI) NN
              rw [hpq] at i2
              have i3 : (g (2 ^ a)).ar.length ≤ s.ar.length + 2 ^ a := i3
              have i2 : cntF' (g (2 ^ a)).th NN + (g (2 ^ a)).q.length = cntF' s.th NN + r.length := i2
              have hcm : cntF' (g (2 ^ a)).th NN ≤ cntF' s.th NN := hcm
              have hrf : runH c m a b f (g (2 ^ a)) = R := by rw [hrun, hI]; rfl
              have hgn : (hS' c m NN (g (2 ^ a))).next = 4 + (g (2 ^ a)).ct := by unfold hS'; rw [stk_next]; rfl
              have hlr2 : s.q.length = r.length + 1 := by rw [hq]; rfl
              have hres1 : 2 * cntF' (g (2 ^ a)).th NN + (g (2 ^ a)).q.length < f := by omega
              have hres2 : (g (2 ^ a)).ar.length + 8 * cntF' (g (2 ^ a)).th NN + 8 * (g (2 ^ a)).q.length ≤ 8 * NN := by omega
              have hres3 : (g (2 ^ a)).ar.length + (8 * cntF' (g (2 ^ a)).th NN + 8 * (g (2 ^ a)).q.length) ≤ 8 * NN := by omega
              clear b1 b2 b3 b4 b5 b6
              rw [hX0]
              simp only [go_sem, seval, reduceCtorEq]
              exact ⟨(f, g (2 ^ a)), ⟨hrf, ⟨_, end_invH i1⟩, hres1, hres3, k1.ct, k1.off⟩, Nat.lt_succ_self f, ⟨⟨.refl _, by show 3 < (hS' c m NN (g (2 ^ a))).next; omega⟩, .refl _, bel_quA (q0 := [x0]) (by show 4 + (g (2 ^ a)).ct ≤ (hS' c m NN (g (2 ^ a))).next; omega)⟩, cut_hS k2⟩
end
theorem b25 {gl : GL} : Body (C gl).P 25 Tryd.f25 (codeOf Tryd.f25) := ⟨Tryd.func25, by kernel_rfl, by kernel_rfl⟩
noncomputable def satI (c : Ct) (m : Mc) (a b i : Nat) : Bool := !holdsF i i c.ie || (holdsF (ltM m a 0 i : Nat) (ltM m a 0 i : Nat) c.is && hldB c m a b (nxM m a b 0 i))
noncomputable def satB (c : Ct) (m : Mc) (a b : Nat) : Bool := (List.range (2 ^ a)).all (satI c m a b)
theorem ct_nz (c : Ct) : (ctCells c).map AV.nz1 = ctCells c := by cases c; rfl
section
variable {gl : GL}
theorem sat_ok (c : Ct) (m : Mc) (a b : Nat) (hc : CtV c a b) (hf : FitP m a b) (hS : m.ans.length ≤ 200) (hj : c.je.length + c.js.length ≤ 12) :
    PCall (C gl) 25 [encC c, encM m] (.bool (satB c m a b)) := by
  refine pcallX (callX_of b25 (by simp [Tryd.ntmps25]) ?_) (by simp only [AllCl, cl_encC, and_true, true_and]; exact cl_encM m) (.bool _)
  have p1 := pow2_le 3 hc.a3
  have p2 := pow2_le 3 hc.b3
  have hin := hc.inn
  have q1 := shl_one a (by have := hc.a3; omega)
  have hpos := hf.pos
  have hrow := hf.rows 0 (by omega)
  have hA := rows_len m.ans
  have hN := rows_len m.nxt
  have gA := rows_get m.ans 0 (by omega)
  have gN := rows_get m.nxt 0 (by rw [hf.nl]; omega)
  have rA := row_len (m.ans.getD 0 [])
  have rN := row_len (m.nxt.getD 0 [])
  rw [hrow.al] at rA
  rw [hrow.nl] at rN
  rw [hf.nl] at hN
  have hd : ((0 : Int) < (m.ans.length : Int)) = True := by simp; omega
  have hnb : Nonempty (PLift (2 ^ a ≤ 8 ∧ 2 ^ b ≤ 8)) := ⟨⟨p1, p2⟩⟩
  clear p1 p2
  refine W.of ?_
  rw [Tryd.ntmps25]
  simp only [toK, codeOf, Tryd.f25, go_sem, seval, reduceCtorEq]
  have H := And.intro @encM_eq (And.intro @hin @q1)
  refine autoA ?_
  repeat' (first | (refine WK.draw0 (ops := #[_, _, _, _, _, _, _, _, _, _, _, _, _]) mixed (by kernel_rfl) ?_; refine autoA ?_) | (refine WK.draw (ops := #[_, _, _, _, _, _, _, _, _, _, _, _, _, _, _, _, _, _, _, _]) [dq 0 0, dq 0 0, dq 0 0, dq 0 0, dm, dq 0 0, dq 0 0, dq 0 0, dq 0 0, dq 0 0, dq 0 0, dq 0 0, dq 0 0, dq 0 0, dq 0 0, dq 0 0, dq 0 0, dm, dq 0 0, dq 0 0] mixed (by kernel_rfl) ?_; refine autoA ?_))
  try exact trivial
  obtain ⟨⟨p1, p2⟩⟩ := id hnb
  refine rangeAI ((2 ^ a)) [2, 3] [] (fun i => []) (fun i => ((Sto.none.add (.box (ctCells c))).add (.box [.int .i64 m.inn, .int .i64 m.out, .list false (m.ans.map intL), .list false (m.nxt.map intL)]))) (fun i => ∀ t < i, satI c m a b t = true) ?_ ?_
  · intro i hi hI
    have ha3 := hc.a3
    have hce := hrow.cells i hi
    obtain ⟨A, hAe⟩ := Int.eq_ofNat_of_zero_le hce.a0
    obtain ⟨Y, hYe⟩ := Int.eq_ofNat_of_zero_le hce.n0
    have hA1 : A < 2 ^ b := by have := hce.a1; rw [hAe] at this; omega
    have hY1 : Y < m.ans.length := by have := hce.n1; rw [hYe] at this; omega
    have ra : ((m.ans.getD 0 []).map fun x => AV.int .i64 x).getD i .undef = .int .i64 (A : Int) := by
      rw [row_get _ i (by rw [hrow.al]; exact hi)]; exact congrArg _ hAe
    have rn : ((m.nxt.getD 0 []).map fun x => AV.int .i64 x).getD i .undef = .int .i64 (Y : Int) := by
      rw [row_get _ i (by rw [hrow.nl]; exact hi)]; exact congrArg _ hYe
    have hAm : A * 2 ^ a ≤ 8 * 8 := Nat.mul_le_mul (by omega) (by omega)
    have sA := shl_mul A a (by omega) (by omega)
    have sw := wrap_add_nat i (A * 2 ^ a) (by omega)
    have hkn : i + A * 2 ^ a < 2 ^ (a + b) := idx_lt hi hA1
    have hlt0 : ltM m a 0 i = i + A * 2 ^ a := by unfold ltM; rw [hAe]; rfl
    generalize hkk : i + A * 2 ^ a = kk at *
    have hnx : nxM m a b 0 i = Y * 2 ^ (a + b) + kk := by unfold nxM; rw [hYe, hlt0]; rfl
    have hsi : satI c m a b i = (!holdsF i i c.ie || (holdsF kk kk c.is && hldB c m a b (Y * 2 ^ (a + b) + kk))) := by unfold satI; rw [hlt0, hnx]
    have tie : Ctr (C gl) 78 [encF c.ie, .int .i64 i, .int .i64 i] True (.bool (holdsF i i c.ie)) := ⟨fun _ => true_ok _ hc.tie _ _⟩
    have tis : Ctr (C gl) 78 [encF c.is, .int .i64 kk, .int .i64 kk] True (.bool (holdsF kk kk c.is)) := ⟨fun _ => true_ok _ hc.tis _ _⟩
    have tho : Ctr (C gl) 24 [encC c, encM m, .int .i64 Y, .int .i64 kk] True (.bool (hldB c m a b (Y * 2 ^ (a + b) + kk))) := ⟨fun _ => rholds_ok c m a b Y kk hc hf hS hj hY1 hkn⟩
    simp only [encC_eq, encM_eq] at tho
    generalize hldB c m a b (Y * 2 ^ (a + b) + kk) = hb at *
    have hno : satI c m a b i = false → satB c m a b = false := fun h => by
      refine Bool.eq_false_iff.2 fun h2 => ?_
      have := List.all_eq_true.1 h2 i (List.mem_range.2 hi)
      rw [h] at this; cases this
    have hstep : satI c m a b i = true → ∀ t < i + 1, satI c m a b t = true := fun h t ht => by
      rcases Nat.lt_succ_iff_lt_or_eq.1 ht with h1 | rfl
      · exact hI t h1
      · exact h
    rw [hsi] at hno hstep
    clear p1 p2 hAm hkn hA1 hY1 ha3 hS hj hpos
    cases e1 : holdsF i i c.ie with
    | false =>
      have hst := hstep (by rw [e1]; rfl)
      rw [e1] at tie
      have H := And.intro @hin (And.intro @hA (And.intro @hN (And.intro @gA (And.intro @gN (And.intro @rA (And.intro @rN (And.intro @ra (And.intro @rn (And.intro @ct_nz (And.intro @hd (And.intro @hi (And.intro @sA (And.intro @sw (And.intro @hkk @Int.toNat_natCast))))))))))))))
      refine autoA ?_
      repeat' (first | (refine WK.draw0 (ops := #[_, _, _, _, _, _, _, _, _, _, _, _, _]) mixed (by kernel_rfl) ?_; refine autoA ?_) | (refine WK.draw (ops := #[_, _, _, _, _, _, _, _, _, _, _, _, _, _, _, _, _, _, _, _]) [dq 0 0, dq 0 0, dq 0 0, dq 0 0, dm, dq 0 0, dq 0 0, dq 0 0, dq 0 0, dq 0 0, dq 0 0, dq 0 0, dq 0 0, dq 0 0, dq 0 0, dq 0 0, dq 0 0, dm, dq 0 0, dq 0 0] mixed (by kernel_rfl) ?_; refine autoA ?_))
      try exact trivial
    | true =>
    cases e2 : holdsF kk kk c.is with
    | false =>
      have hrf := hno (by rw [e1, e2]; rfl)
      rw [e1] at tie
      rw [e2] at tis
      have H := And.intro @hin (And.intro @hA (And.intro @hN (And.intro @gA (And.intro @gN (And.intro @rA (And.intro @rN (And.intro @ra (And.intro @rn (And.intro @ct_nz (And.intro @hd (And.intro @hi (And.intro @sA (And.intro @sw (And.intro @hkk (And.intro @hrf @Int.toNat_natCast)))))))))))))))
      refine autoA ?_
      repeat' (first | (refine WK.draw0 (ops := #[_, _, _, _, _, _, _, _, _, _, _, _, _]) mixed (by kernel_rfl) ?_; refine autoA ?_) | (refine WK.draw (ops := #[_, _, _, _, _, _, _, _, _, _, _, _, _, _, _, _, _, _, _, _]) [dq 0 0, dq 0 0, dq 0 0, dq 0 0, dm, dq 0 0, dq 0 0, dq 0 0, dq 0 0, dq 0 0, dq 0 0, dq 0 0, dq 0 0, dq 0 0, dq 0 0, dq 0 0, dq 0 0, dm, dq 0 0, dq 0 0] mixed (by kernel_rfl) ?_; refine autoA ?_))
      try exact trivial
      exact cut_none _
    | true =>
    cases e3 : hb with
    | false =>
      have hrf := hno (by rw [e1, e2, e3]; rfl)
      rw [e1] at tie
      rw [e2] at tis
      rw [e3] at tho
      have H := And.intro @hin (And.intro @hA (And.intro @hN (And.intro @gA (And.intro @gN (And.intro @rA (And.intro @rN (And.intro @ra (And.intro @rn (And.intro @ct_nz (And.intro @hd (And.intro @hi (And.intro @sA (And.intro @sw (And.intro @hkk (And.intro @hrf @Int.toNat_natCast)))))))))))))))
      refine autoA ?_
      repeat' (first | (refine WK.draw0 (ops := #[_, _, _, _, _, _, _, _, _, _, _, _, _]) mixed (by kernel_rfl) ?_; refine autoA ?_) | (refine WK.draw (ops := #[_, _, _, _, _, _, _, _, _, _, _, _, _, _, _, _, _, _, _, _]) [dq 0 0, dq 0 0, dq 0 0, dq 0 0, dm, dq 0 0, dq 0 0, dq 0 0, dq 0 0, dq 0 0, dq 0 0, dq 0 0, dq 0 0, dq 0 0, dq 0 0, dq 0 0, dq 0 0, dm, dq 0 0, dq 0 0] mixed (by kernel_rfl) ?_; refine autoA ?_))
      try exact trivial
      exact cut_none _
    | true =>
      have hst := hstep (by rw [e1, e2, e3]; rfl)
      rw [e1] at tie
      rw [e2] at tis
      rw [e3] at tho
      have H := And.intro @hin (And.intro @hA (And.intro @hN (And.intro @gA (And.intro @gN (And.intro @rA (And.intro @rN (And.intro @ra (And.intro @rn (And.intro @ct_nz (And.intro @hd (And.intro @hi (And.intro @sA (And.intro @sw (And.intro @hkk @Int.toNat_natCast))))))))))))))
      refine autoA ?_
      repeat' (first | (refine WK.draw0 (ops := #[_, _, _, _, _, _, _, _, _, _, _, _, _]) mixed (by kernel_rfl) ?_; refine autoA ?_) | (refine WK.draw (ops := #[_, _, _, _, _, _, _, _, _, _, _, _, _, _, _, _, _, _, _, _]) [dq 0 0, dq 0 0, dq 0 0, dq 0 0, dm, dq 0 0, dq 0 0, dq 0 0, dq 0 0, dq 0 0, dq 0 0, dq 0 0, dq 0 0, dq 0 0, dq 0 0, dq 0 0, dq 0 0, dm, dq 0 0, dq 0 0] mixed (by kernel_rfl) ?_; refine autoA ?_))
      try exact trivial
  · intro hI
    have hend : satB c m a b = true := List.all_eq_true.2 fun i hi => hI i (List.mem_range.1 hi)
    clear p1 p2 hS hj hpos
    have H := @hend
    refine autoA ?_
    repeat' (first | (refine WK.draw0 (ops := #[_, _, _, _, _, _, _, _, _, _, _, _, _]) mixed (by kernel_rfl) ?_; refine autoA ?_) | (refine WK.draw (ops := #[_, _, _, _, _, _, _, _, _, _, _, _, _, _, _, _, _, _, _, _]) [dq 0 0, dq 0 0, dq 0 0, dq 0 0, dm, dq 0 0, dq 0 0, dq 0 0, dq 0 0, dq 0 0, dq 0 0, dq 0 0, dq 0 0, dq 0 0, dq 0 0, dq 0 0, dq 0 0, dm, dq 0 0, dq 0 0] mixed (by kernel_rfl) ?_; refine autoA ?_))
    try exact trivial
    exact cut_none _
end
end Go.Sx
