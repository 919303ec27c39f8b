import Derived.Test.YtndchmmclfidgaaDoorTlJ
import Derived.Test.YtndchmmclfidgaaDoorTlF
import Derived.Test.YtndchmmclfidgaaDoorLgAv
import Derived.Test.YtndchmmclfidgaaDoorTkN
import Derived.Test.YtndchmmclfidgaaDoorLgAw
set_option maxRecDepth 100000
set_option maxHeartbeats 4000000
set_option linter.unusedSimpArgs false
set_option linter.unusedVariables false
set_option linter.unnecessarySimpa false
namespace Go.Sx
open Go Go.Lg Go.Proofs
/-! ## The reference's reader, and that it reads as the parser does -/
inductive RM where
  | unit
  | read (s : Nat)
  | loop (s : Nat) (f : Fm)
abbrev RR := Fm × List Bs × Bool
def zF : Fm := .mk 0 0 []
def preI (t : Bs) : Int := if t == [33] then 3 else if t == [88] then 8 else if t == [70] then 9 else if t == [71] then 10 else -1
def sgAt (s : Nat) (t : Bs) : Option Sg := sgT.find? fun x => (x.2.2.1 == (s : Int)) && (t == x.2.1)
def closeR (r : RR) : RR :=
  if r.2.2 then r else if nowS r.2.1 == [41] then (r.1, r.2.1.drop 1, false) else (r.1, r.2.1, true)
def rdF (ns : List Bs) : Nat → RM → List Bs → Option RR
  | 0, _, _ => none
  | n + 1, .unit, l =>
    match l with
    | [] => some (zF, [], true)
    | t :: r =>
      if 0 ≤ preI t then
        match rdF ns n .unit r with
        | none => none
        | some x => some (.mk (preI t) 0 [x.1], x.2)
      else if t == trueT then some (.mk 0 0 [], r, false)
      else if t == falseT then some (.mk 1 0 [], r, false)
      else if t == [40] then
        match rdF ns n (.read 1) r with
        | none => none
        | some x => some (closeR x)
      else if idxT t ns < 0 then some (zF, r, true) else some (.mk 2 (idxT t ns) [], r, false)
  | n + 1, .read s, l =>
    if 5 < s then rdF ns n .unit l
    else match rdF ns n (.read (s + 1)) l with
      | none => none
      | some x => if x.2.2 then some x else rdF ns n (.loop s x.1) x.2.1
  | n + 1, .loop s f, l =>
    match sgAt s (nowS l) with
    | none => some (f, l, false)
    | some g =>
      match rdF ns n (.read (if g.2.2.2 then s else s + 1)) (l.drop 1) with
      | none => none
      | some x => if x.2.2 then some (.mk g.1 0 [f, x.1], x.2) else rdF ns n (.loop s (.mk g.1 0 [f, x.1])) x.2.1
theorem rdF_up (ns : List Bs) : ∀ (n : Nat) (md : RM) (l : List Bs) (r : RR), rdF ns n md l = some r → ∀ m, n ≤ m → rdF ns m md l = some r
  | 0, _, _, _, h, _, _ => by simp only [rdF] at h; cases h
  | n + 1, md, l, r, h, 0, hm => absurd hm (by omega)
  | n + 1, .unit, l, r, h, m + 1, hm => by
    have hm : n ≤ m := by omega
    cases l with
    | nil => simpa only [rdF] using h
    | cons t rest =>
      simp only [rdF] at h ⊢
      split at h
      · rename_i hc
        rw [if_pos hc]
        cases e : rdF ns n .unit rest with
        | none => rw [e] at h; cases h
        | some x => rw [e] at h; rw [rdF_up ns n _ _ _ e m hm]; exact h
      · rename_i hc
        rw [if_neg hc]
        split at h
        · rename_i hc; rw [if_pos hc]; exact h
        · rename_i hc; rw [if_neg hc]
          split at h
          · rename_i hc; rw [if_pos hc]; exact h
          · rename_i hc; rw [if_neg hc]
            split at h
            · rename_i hc; rw [if_pos hc]
              cases e : rdF ns n (.read 1) rest with
              | none => rw [e] at h; cases h
              | some x => rw [e] at h; rw [rdF_up ns n _ _ _ e m hm]; exact h
            · rename_i hc; rw [if_neg hc]; exact h
  | n + 1, .read s, l, r, h, m + 1, hm => by
    have hm : n ≤ m := by omega
    simp only [rdF] at h ⊢
    split at h
    · rename_i hc; rw [if_pos hc]; exact rdF_up ns n _ _ _ h m hm
    · rename_i hc; rw [if_neg hc]
      cases e : rdF ns n (.read (s + 1)) l with
      | none => rw [e] at h; cases h
      | some x =>
        rw [e] at h; rw [rdF_up ns n _ _ _ e m hm]
        cases hx : x.2.2 with
        | true => simp only [hx, if_true] at h ⊢; exact h
        | false => simp only [hx, Bool.false_eq_true, if_false] at h ⊢; exact rdF_up ns n _ _ _ h m hm
  | n + 1, .loop s f, l, r, h, m + 1, hm => by
    have hm : n ≤ m := by omega
    simp only [rdF] at h ⊢
    cases hg : sgAt s (nowS l) with
    | none => rw [hg] at h; exact h
    | some g =>
      rw [hg] at h
      simp only at h ⊢
      cases e : rdF ns n (.read (if g.2.2.2 then s else s + 1)) (l.drop 1) with
      | none => rw [e] at h; cases h
      | some x =>
        rw [e] at h; rw [rdF_up ns n _ _ _ e m hm]
        cases hx : x.2.2 with
        | true => simp only [hx, if_true] at h ⊢; exact h
        | false => simp only [hx, Bool.false_eq_true, if_false] at h ⊢; exact rdF_up ns n _ _ _ h m hm
def Ev (ns : List Bs) (md : RM) (l : List Bs) (r : RR) : Prop := ∃ n, rdF ns n md l = some r
theorem ev_read5 {ns : List Bs} {s : Nat} {l : List Bs} {r : RR} (hs : 5 < s) (h : Ev ns .unit l r) : Ev ns (.read s) l r := by
  obtain ⟨n, h⟩ := h
  exact ⟨n + 1, by simp only [rdF, if_pos hs]; exact h⟩
theorem ev_readT {ns : List Bs} {s : Nat} {l l' : List Bs} {f : Fm} (hs : ¬ 5 < s) (h : Ev ns (.read (s + 1)) l (f, l', true)) : Ev ns (.read s) l (f, l', true) := by
  obtain ⟨n, h⟩ := h
  exact ⟨n + 1, by simp only [rdF, if_neg hs, h]; rfl⟩
theorem ev_readF {ns : List Bs} {s : Nat} {l l' : List Bs} {f : Fm} {r : RR} (hs : ¬ 5 < s) (h : Ev ns (.read (s + 1)) l (f, l', false)) (k : Ev ns (.loop s f) l' r) : Ev ns (.read s) l r := by
  obtain ⟨n, h⟩ := h
  obtain ⟨m, k⟩ := k
  refine ⟨max n m + 1, ?_⟩
  simp only [rdF, if_neg hs, rdF_up ns n _ _ _ h _ (Nat.le_max_left n m), Bool.false_eq_true, if_false]
  exact rdF_up ns m _ _ _ k _ (Nat.le_max_right n m)
theorem ev_stop {ns : List Bs} {s : Nat} {l : List Bs} {f : Fm} (h : sgAt s (nowS l) = none) : Ev ns (.loop s f) l (f, l, false) :=
  ⟨1, by simp only [rdF, h]⟩
theorem ev_loopT {ns : List Bs} {s : Nat} {l l' : List Bs} {f f' : Fm} {g : Sg} (h : sgAt s (nowS l) = some g) (k : Ev ns (.read (if g.2.2.2 then s else s + 1)) (l.drop 1) (f', l', true)) : Ev ns (.loop s f) l (.mk g.1 0 [f, f'], l', true) := by
  obtain ⟨n, k⟩ := k
  exact ⟨n + 1, by simp only [rdF, h, k]; rfl⟩
theorem ev_loopF {ns : List Bs} {s : Nat} {l l' : List Bs} {f f' : Fm} {g : Sg} {r : RR} (h : sgAt s (nowS l) = some g) (k : Ev ns (.read (if g.2.2.2 then s else s + 1)) (l.drop 1) (f', l', false))
    (j : Ev ns (.loop s (.mk g.1 0 [f, f'])) l' r) : Ev ns (.loop s f) l r := by
  obtain ⟨n, k⟩ := k
  obtain ⟨m, j⟩ := j
  refine ⟨max n m + 1, ?_⟩
  simp only [rdF, h, rdF_up ns n _ _ _ k _ (Nat.le_max_left n m), Bool.false_eq_true, if_false]
  exact rdF_up ns m _ _ _ j _ (Nat.le_max_right n m)
/-- Levels t, t - 1, .., s one after another. -/
inductive Ch (ns : List Bs) : Nat → Nat → Fm → List Bs → RR → Prop where
  | nil {s t : Nat} {f : Fm} {l : List Bs} (h : t < s) : Ch ns t s f l (f, l, false)
  | bad {s t : Nat} {f f' : Fm} {l l' : List Bs} (h : s ≤ t) (k : Ev ns (.loop t f) l (f', l', true)) : Ch ns t s f l (f', l', true)
  | ok {s t : Nat} {f f' : Fm} {l l' : List Bs} {r : RR} (h : s ≤ t) (k : Ev ns (.loop t f) l (f', l', false)) (j : Ch ns (t - 1) s f' l' r) : Ch ns t s f l r
/-- What the parser answers, as the reader says it. -/
def AG (o : Option (Fm × List Bs)) (P : RR → Prop) : Prop :=
  match o with
  | some p => P (p.1, p.2, false)
  | none => ∃ f l, P (f, l, true)
theorem sg_none {s : Nat} {t : Bs} (h : ∀ k : Nat, k < 14 → arityL.getD k 0 = 2 → opS t = (k : Int) → strengthL.getD k 0 ≠ (s : Int)) : sgAt s t = none := by
  unfold sgAt
  refine List.find?_eq_none.2 fun x hx hh => ?_
  simp only [Bool.and_eq_true, beq_iff_eq] at hh
  obtain ⟨h1, rfl⟩ := hh
  simp only [sgT, List.mem_cons, List.not_mem_nil, or_false] at hx
  rcases hx with rfl | rfl | rfl | rfl | rfl | rfl | rfl
  · exact h 7 (by decide) (by decide) (by decide) (by rw [← h1]; decide)
  · exact h 6 (by decide) (by decide) (by decide) (by rw [← h1]; decide)
  · exact h 5 (by decide) (by decide) (by decide) (by rw [← h1]; decide)
  · exact h 4 (by decide) (by decide) (by decide) (by rw [← h1]; decide)
  · exact h 11 (by decide) (by decide) (by decide) (by rw [← h1]; decide)
  · exact h 12 (by decide) (by decide) (by decide) (by rw [← h1]; decide)
  · exact h 13 (by decide) (by decide) (by decide) (by rw [← h1]; decide)
theorem idxF_some {A : Type} (p : A → Bool) (d : A) : ∀ (l : List A) (i k : Nat), idxF p l i = (k : Int) → ∃ j, k = i + j ∧ j < l.length ∧ p (l.getD j d) = true
  | [], i, k, h => by simp only [idxF] at h; omega
  | x :: l, i, k, h => by
    simp only [idxF] at h
    split at h
    · rename_i hc
      exact ⟨0, by omega, by simp, by simpa using hc⟩
    · obtain ⟨j, e, hj, hp⟩ := idxF_some p d l (i + 1) k h
      exact ⟨j + 1, by omega, by simpa using hj, by simpa using hp⟩
theorem op_text {t : Bs} {k : Nat} (h : opS t = (k : Int)) : k < 14 ∧ t = signsL.getD k [] := by
  unfold opS at h
  split at h
  · omega
  · obtain ⟨j, e, hj, hp⟩ := idxF_some (fun u => t == u) [] signsL 0 k h
    have : k = j := by omega
    subst this
    exact ⟨hj, eq_of_beq hp⟩
theorem sg_some : ∀ k : Nat, k < 14 → arityL.getD k 0 = 2 → ∀ s : Nat, strengthL.getD k 0 = (s : Int) → sgAt s (signsL.getD k []) = some ((k : Int), signsL.getD k [], strengthL.getD k 0, rightL.getD k false) := by
  intro k hk ha s hs
  obtain rfl | rfl | rfl | rfl | rfl | rfl | rfl : k = 4 ∨ k = 5 ∨ k = 6 ∨ k = 7 ∨ k = 11 ∨ k = 12 ∨ k = 13 := by
    obtain rfl | rfl | rfl | rfl | rfl | rfl | rfl | rfl | rfl | rfl | rfl | rfl | rfl | rfl : k = 0 ∨ k = 1 ∨ k = 2 ∨ k = 3 ∨ k = 4 ∨ k = 5 ∨ k = 6 ∨ k = 7 ∨ k = 8 ∨ k = 9 ∨ k = 10 ∨ k = 11 ∨ k = 12 ∨ k = 13 := by omega
    all_goals first | omega | exact absurd ha (by decide)
  · obtain rfl : s = 4 := by change (4 : Int) = s at hs; omega
    rfl
  · obtain rfl : s = 3 := by change (3 : Int) = s at hs; omega
    rfl
  · obtain rfl : s = 2 := by change (2 : Int) = s at hs; omega
    rfl
  · obtain rfl : s = 1 := by change (1 : Int) = s at hs; omega
    rfl
  · obtain rfl : s = 5 := by change (5 : Int) = s at hs; omega
    rfl
  · obtain rfl : s = 5 := by change (5 : Int) = s at hs; omega
    rfl
  · obtain rfl : s = 5 := by change (5 : Int) = s at hs; omega
    rfl
/-- Levels above the operator's own do nothing. -/
theorem ch_skip {ns : List Bs} {t s : Nat} {f : Fm} {l : List Bs} {r : RR} : ∀ (d : Nat), t + d ≤ 5 → (∀ j, t < j → j ≤ t + d → sgAt j (nowS l) = none) → s ≤ t + 1 → Ch ns t s f l r → Ch ns (t + d) s f l r
  | 0, _, _, _, h => h
  | d + 1, hd, hj, hs, h => .ok (by omega) (ev_stop (hj (t + (d + 1)) (by omega) (by omega))) (ch_skip d (by omega) (fun j h1 h2 => hj j h1 (by omega)) hs h)
theorem ch_nothing {ns : List Bs} {s : Nat} {f : Fm} {l : List Bs} (h1 : 1 ≤ s) (hs : s ≤ 6) (hj : ∀ j, s ≤ j → sgAt j (nowS l) = none) : Ch ns 5 s f l (f, l, false) := by
  have : Ch ns ((s - 1) + (6 - s)) s f l (f, l, false) := ch_skip (6 - s) (by omega) (fun j h2 h3 => hj j (by omega)) (by omega) (.nil (by omega))
  rwa [show (s - 1) + (6 - s) = 5 from by omega] at this
theorem ch_last {ns : List Bs} {t s : Nat} {f : Fm} {l : List Bs} {r : RR} (h : Ch ns t s f l r) : 1 ≤ s → s ≤ t → ∃ x : RR, Ch ns t (s + 1) f l x ∧ (x.2.2 = true ∧ r = x ∨ x.2.2 = false ∧ Ev ns (.loop s x.1) x.2.1 r) := by
  induction h with
  | nil h => intro h1 h2; omega
  | @bad s t f f' l l' h k =>
    intro h1 h2
    by_cases hst : s = t
    · subst hst
      exact ⟨(f, l, false), .nil (by omega), .inr ⟨rfl, k⟩⟩
    · exact ⟨(f', l', true), .bad (by omega) k, .inl ⟨rfl, rfl⟩⟩
  | @ok s t f f' l l' r h k j ih =>
    intro h1 h2
    by_cases hst : s = t
    · subst hst
      cases j with
      | nil h => exact ⟨(f, l, false), .nil (by omega), .inr ⟨rfl, k⟩⟩
      | bad h => omega
      | ok h => omega
    · obtain ⟨x, hx, hh⟩ := ih h1 (by omega)
      exact ⟨x, .ok (by omega) k hx, hh⟩
/-- Reading at a level is a unit, and the levels from five down. -/
theorem ev_readCh {ns : List Bs} {l l' : List Bs} {f : Fm} (hu : Ev ns .unit l (f, l', false)) : ∀ (d s : Nat) (r : RR), 1 ≤ s → s + d = 6 → Ch ns 5 s f l' r → Ev ns (.read s) l r
  | 0, s, r, h1, hs, h => by
    obtain rfl : s = 6 := by omega
    cases h with
    | nil h => exact ev_read5 (by omega) hu
    | bad h => omega
    | ok h => omega
  | d + 1, s, r, h1, hs, h => by
    obtain ⟨⟨xf, xl, xb⟩, hx, hh⟩ := ch_last h h1 (by omega)
    have ih := ev_readCh hu d (s + 1) _ (by omega) (by omega) hx
    rcases hh with ⟨hb, rfl⟩ | ⟨hb, hk⟩
    · cases hb
      exact ev_readT (by omega) ih
    · cases hb
      exact ev_readF (by omega) ih hk
theorem ev_readBad {ns : List Bs} {l l' : List Bs} {f : Fm} (hu : Ev ns .unit l (f, l', true)) : ∀ (d s : Nat), s + d = 6 → Ev ns (.read s) l (f, l', true)
  | 0, s, hs => ev_read5 (by omega) hu
  | d + 1, s, hs => ev_readT (by omega) (ev_readBad hu d (s + 1) (by omega))
theorem ev_det {ns : List Bs} {md : RM} {l : List Bs} {r r' : RR} (h : Ev ns md l r) (k : Ev ns md l r') : r = r' := by
  obtain ⟨n, h⟩ := h
  obtain ⟨m, k⟩ := k
  have e1 := rdF_up ns n _ _ _ h _ (Nat.le_max_left n m)
  have e2 := rdF_up ns m _ _ _ k _ (Nat.le_max_right n m)
  rw [e1] at e2; exact Option.some.inj e2
theorem ch_unskip {ns : List Bs} {t s : Nat} {f : Fm} {l : List Bs} {r : RR} : ∀ (d : Nat), (∀ j, t < j → j ≤ t + d → sgAt j (nowS l) = none) → s ≤ t + 1 → Ch ns (t + d) s f l r → Ch ns t s f l r
  | 0, _, _, h => h
  | d + 1, hj, hs, h => by
    have hst := ev_stop (ns := ns) (f := f) (hj (t + (d + 1)) (by omega) (by omega))
    cases h with
    | nil h => omega
    | bad h k =>
      have := ev_det hst k
      simp only [Prod.mk.injEq, reduceCtorEq, and_false] at this
    | ok h k j =>
      have := ev_det hst k
      simp only [Prod.mk.injEq, and_true] at this
      obtain ⟨rfl, rfl⟩ := this
      exact ch_unskip d (fun j h1 h2 => hj j h1 (by omega)) hs j
theorem parT_len {ns : List Bs} {md : Md} {l l' : List Bs} {f : Fm} (h : parT ns md l = some (f, l')) : l'.length + eats md ≤ l.length := by
  have := parF_len ns _ _ _ _ _ h
  omega
theorem loop_stops {ns : List Bs} : ∀ (n : Nat) (s : Int) (f g : Fm) (l l' : List Bs), l.length ≤ n → parT ns (.loop s f) l = some (g, l') → stops s (opS (nowS l')) = true := by
  intro n
  induction n with
  | zero =>
    intro s f g l l' hl h
    have : l = [] := List.length_eq_zero_iff.1 (by omega)
    subst this
    rw [loop_stop (by rw [show nowS [] = [] from rfl, opS_nil, stops_neg])] at h
    simp only [Option.some.injEq, Prod.mk.injEq] at h
    obtain ⟨_, rfl⟩ := h
    rw [show nowS [] = [] from rfl, opS_nil, stops_neg]
  | succ n ih =>
    intro s f g l l' hl h
    rw [parT_loop] at h
    cases hs : stops s (opS (nowS l)) with
    | true =>
      rw [hs, if_pos rfl] at h
      simp only [Option.some.injEq, Prod.mk.injEq] at h
      obtain ⟨_, rfl⟩ := h
      exact hs
    | false =>
      rw [hs, if_neg Bool.false_ne_true] at h
      cases e : parT ns (.bin (nxt (opS (nowS l)))) (l.drop 1) with
      | none => rw [e] at h; cases h
      | some x =>
        obtain ⟨g', l''⟩ := x
        rw [e] at h
        have := parT_len e
        simp only [eats, List.length_drop] at this
        exact ih s _ g l'' l' (by omega) h
theorem bin_stops {ns : List Bs} {s : Int} {l l' : List Bs} {g : Fm} (h : parT ns (.bin s) l = some (g, l')) : stops s (opS (nowS l')) = true := by
  rw [parT_bin] at h
  cases e : parT ns .pre l with
  | none => rw [e] at h; cases h
  | some x =>
    obtain ⟨f, l1⟩ := x
    rw [e] at h
    exact loop_stops _ s f g l1 l' (Nat.le_refl _) h
theorem stops_sg {s j : Nat} {t : Bs} (h : stops s (opS t) = true) (hj : s ≤ j) : sgAt j t = none := by
  refine sg_none fun k hk ha ho => ?_
  rw [ho, stops_of ha] at h
  have := of_decide_eq_true h
  omega
theorem nstops {s : Int} {o : Int} (h : stops s o = false) : ∃ k : Nat, o = (k : Int) ∧ arityL.getD k 0 = 2 ∧ s ≤ strengthL.getD k 0 := by
  unfold stops at h
  simp only [Bool.or_eq_false_iff, decide_eq_false_iff_not, Bool.not_eq_false', beq_iff_eq] at h
  obtain ⟨h1, h2, h3⟩ := h
  refine ⟨o.toNat, by omega, h2, by omega⟩
theorem st_nat : ∀ k, k < 14 → arityL.getD k 0 = 2 → 1 ≤ (strengthL.getD k 0).toNat ∧ (strengthL.getD k 0).toNat ≤ 5 ∧ strengthL.getD k 0 = (((strengthL.getD k 0).toNat : Nat) : Int) := by decide
def RdEq (ns : List Bs) (l : List Bs) : Prop :=
  AG (parT ns .pre l) (Ev ns .unit l) ∧ (∀ s : Nat, 1 ≤ s → s ≤ 6 → AG (parT ns (.bin s) l) (Ev ns (.read s) l)) ∧ (∀ (s : Nat) (f : Fm), 1 ≤ s → s ≤ 6 → AG (parT ns (.loop s f) l) (Ch ns 5 s f l))
theorem rd_loop {ns : List Bs} {l : List Bs} (ih : ∀ l' : List Bs, l'.length < l.length → RdEq ns l') (s : Nat) (f : Fm) (h1 : 1 ≤ s) (h6 : s ≤ 6) : AG (parT ns (.loop s f) l) (Ch ns 5 s f l) := by
  rw [parT_loop]
  cases hs : stops s (opS (nowS l)) with
  | true =>
    rw [if_pos rfl]
    exact ch_nothing h1 h6 fun j hj => stops_sg hs hj
  | false =>
    rw [if_neg Bool.false_ne_true]
    obtain ⟨k, hk, ha, hsk⟩ := nstops hs
    obtain ⟨hk14, htx⟩ := op_text hk
    obtain ⟨t1, t5, te⟩ := st_nat k hk14 ha
    obtain ⟨t, ht⟩ : ∃ t, t = (strengthL.getD k 0).toNat := ⟨_, rfl⟩
    rw [← ht] at t1 t5 te
    have hg := sg_some k hk14 ha t te
    rw [← htx] at hg
    have hnil : l ≠ [] := fun h => by rw [h, show nowS [] = [] from rfl, opS_nil] at hk; omega
    have hlen : (l.drop 1).length < l.length := by
      cases l with
      | nil => exact absurd rfl hnil
      | cons a l => simp
    have hnx : nxt (opS (nowS l)) = (((if rightL.getD k false then t else t + 1 : Nat)) : Int) := by
      rw [hk, nxt_nat, te]; split <;> simp
    have hoth : ∀ j, t < j → sgAt j (nowS l) = none := fun j hj => sg_none fun k' hk' ha' ho => by
      have : k' = k := by omega
      subst this; omega
    have hbin := (ih _ hlen).2.1 (if rightL.getD k false then t else t + 1) (by split <;> omega) (by split <;> omega)
    rw [← hnx] at hbin
    have hst : s ≤ t := by omega
    have up : ∀ r, Ch ns t s f l r → Ch ns 5 s f l r := fun r h => by
      have := ch_skip (5 - t) (by omega) (fun j h2 h3 => hoth j h2) (by omega) h
      rwa [show t + (5 - t) = 5 from by omega] at this
    cases e : parT ns (.bin (nxt (opS (nowS l)))) (l.drop 1) with
    | none =>
      rw [e] at hbin
      obtain ⟨f', l', hr⟩ := hbin
      exact ⟨_, _, up _ (.bad hst (ev_loopT hg hr))⟩
    | some x =>
      obtain ⟨g, l'⟩ := x
      rw [e] at hbin
      have hl' := parT_len e
      simp only [eats] at hl'
      have hrec := (ih l' (by omega)).2.2 s (.mk (opS (nowS l)) 0 [f, g]) h1 h6
      have hstp := bin_stops e
      rw [hnx] at hstp
      have hoth' : ∀ j, t < j → sgAt j (nowS l') = none := fun j hj => stops_sg hstp (by split <;> omega)
      have conv : ∀ r, Ch ns 5 s (.mk (opS (nowS l)) 0 [f, g]) l' r → Ch ns 5 s f l r := fun r h => by
        rw [show (5 : Nat) = t + (5 - t) from by omega] at h
        have h := ch_unskip (5 - t) (fun j h2 h3 => hoth' j h2) (by omega) h
        rw [hk] at h
        refine up r ?_
        cases h with
        | nil h => omega
        | bad h k => exact .bad hst (ev_loopF hg hbin k)
        | ok h k j => exact .ok hst (ev_loopF hg hbin k) j
      show AG (parT ns (.loop s (.mk (opS (nowS l)) 0 [f, g])) l') _
      cases e2 : parT ns (.loop s (.mk (opS (nowS l)) 0 [f, g])) l' with
      | none =>
        rw [e2] at hrec
        obtain ⟨f', l'', hr⟩ := hrec
        exact ⟨f', l'', conv _ hr⟩
      | some y =>
        rw [e2] at hrec
        exact conv _ hrec
theorem rd_unit {ns : List Bs} (h0 : idxT [] ns < 0) {l : List Bs} (ih : ∀ l' : List Bs, l'.length < l.length → RdEq ns l') : AG (parT ns .pre l) (Ev ns .unit l) := by
  cases l with
  | nil => exact ⟨zF, [], 1, rfl⟩
  | cons t r =>
    have ihr := ih r (by simp)
    rw [parT_pre]
    cases c0 : t == [] with
    | true =>
      obtain rfl := eq_of_beq c0
      exact ⟨zF, r, 1, by simp only [rdF]; rw [if_neg (by decide), if_neg (by decide), if_neg (by decide), if_neg (by decide), if_pos h0]⟩
    | false =>
    rw [if_neg Bool.false_ne_true]
    cases c1 : t == [40] with
    | true =>
      obtain rfl := eq_of_beq c1
      rw [if_pos rfl]
      have hb := ihr.2.1 1 (by omega) (by omega)
      have key : ∀ x, Ev ns (.read 1) r x → Ev ns .unit ([40] :: r) (closeR x) := fun x ⟨n, hn⟩ => ⟨n + 1, by simp only [rdF, hn]; rw [if_neg (by decide), if_neg (by decide), if_neg (by decide), if_pos (by decide)]⟩
      cases e : parT ns (.bin 1) r with
      | none =>
        change AG (parT ns (.bin 1) r) _ at hb
        rw [e] at hb
        obtain ⟨f, l', hr⟩ := hb
        exact ⟨f, l', key _ hr⟩
      | some x =>
        obtain ⟨f, l'⟩ := x
        change AG (parT ns (.bin 1) r) _ at hb
        rw [e] at hb
        have := key _ hb
        cases l' with
        | nil => exact ⟨f, [], this⟩
        | cons u l' =>
          simp only [closeR, nowS, List.headD_cons, List.drop_succ_cons, List.drop_zero, Bool.false_eq_true, if_false] at this
          simp only [parQ]
          cases c2 : u == [41] with
          | true => rw [c2] at this; exact this
          | false => rw [c2] at this; exact ⟨f, u :: l', this⟩
    | false =>
    rw [if_neg Bool.false_ne_true]
    cases c2 : t == trueT with
    | true =>
      obtain rfl := eq_of_beq c2
      exact ⟨1, by simp only [rdF]; rw [if_neg (by decide), if_pos (by decide)]⟩
    | false =>
    rw [if_neg Bool.false_ne_true]
    cases c3 : t == falseT with
    | true =>
      obtain rfl := eq_of_beq c3
      exact ⟨1, by simp only [rdF]; rw [if_neg (by decide), if_neg (by decide), if_pos (by decide)]⟩
    | false =>
    rw [if_neg Bool.false_ne_true]
    cases c4 : opPre t with
    | true =>
      rw [if_pos rfl]
      have hp : 0 ≤ preI t ∧ preI t = opS t := by
        simp only [opPre, Bool.or_eq_true, beq_iff_eq] at c4
        rcases c4 with rfl | rfl | rfl | rfl <;> exact ⟨by decide, by decide⟩
      have key : ∀ x, Ev ns .unit r x → Ev ns .unit (t :: r) (.mk (opS t) 0 [x.1], x.2) := fun x ⟨n, hn⟩ => ⟨n + 1, by simp only [rdF, hn]; rw [if_pos hp.1, hp.2]⟩
      have hu := ihr.1
      cases e : parT ns .pre r with
      | none =>
        rw [e] at hu
        obtain ⟨f, l', hr⟩ := hu
        exact ⟨_, l', key _ hr⟩
      | some x =>
        rw [e] at hu
        exact key _ hu
    | false =>
      rw [if_neg Bool.false_ne_true]
      have hp : ¬ 0 ≤ preI t := by
        simp only [opPre, Bool.or_eq_false_iff] at c4
        simp only [preI, c4.1, c4.2.1, c4.2.2.1, c4.2.2.2, Bool.false_eq_true, if_false]; omega
      have hn : ∀ n, rdF ns (n + 1) .unit (t :: r) = if idxT t ns < 0 then some (zF, r, true) else some (.mk 2 (idxT t ns) [], r, false) := fun n => by
        simp only [rdF, if_neg hp, c1, c2, c3, Bool.false_eq_true, if_false]
      split
      · rename_i hi
        exact ⟨zF, r, 1, by rw [hn, if_pos hi]⟩
      · rename_i hi
        exact ⟨1, by rw [hn, if_neg hi]⟩
theorem rd_step {ns : List Bs} (h0 : idxT [] ns < 0) {l : List Bs} (ih : ∀ l' : List Bs, l'.length < l.length → RdEq ns l') : RdEq ns l := by
  have hu := rd_unit h0 ih
  refine ⟨hu, fun s h1 h6 => ?_, fun s f h1 h6 => rd_loop ih s f h1 h6⟩
  rw [parT_bin]
  cases e : parT ns .pre l with
  | none =>
    rw [e] at hu
    obtain ⟨f, l', hr⟩ := hu
    exact ⟨f, l', ev_readBad hr (6 - s) s (by omega)⟩
  | some x =>
    obtain ⟨f, l'⟩ := x
    rw [e] at hu
    have hl := parT_len e
    simp only [eats] at hl
    have hk := (ih l' (by omega)).2.2 s f h1 h6
    show AG (parT ns (.loop s f) l') _
    cases e2 : parT ns (.loop s f) l' with
    | none =>
      rw [e2] at hk
      obtain ⟨g, l'', hr⟩ := hk
      exact ⟨g, l'', ev_readCh hu (6 - s) s _ h1 (by omega) hr⟩
    | some y =>
      rw [e2] at hk
      exact ev_readCh hu (6 - s) s _ h1 (by omega) hk
theorem rd_eq {ns : List Bs} (h0 : idxT [] ns < 0) : ∀ (n : Nat) (l : List Bs), l.length ≤ n → RdEq ns l := by
  intro n
  induction n with
  | zero => exact fun l hl => rd_step h0 fun l' h => absurd h (by omega)
  | succ n ih => exact fun l hl => rd_step h0 fun l' h => ih l' (by omega)
/-- What the reader answers to a whole text. -/
theorem rd_all {ns : List Bs} (h0 : idxT [] ns < 0) (l : List Bs) : AG (parT ns (.bin 1) l) (Ev ns (.read 1) l) := (rd_eq h0 l.length l (Nat.le_refl _)).2.1 1 (by omega) (by omega)
end Go.Sx

set_option maxRecDepth 100000
set_option maxHeartbeats 4000000
set_option linter.unusedSimpArgs false
set_option linter.unusedVariables false
set_option linter.unnecessarySimpa false
namespace Go.Sx
open Go Go.Lg Go.Proofs
theorem b195 {gl : GL} : Body (C gl).P 195 Tryd.f195 (codeOf Tryd.f195) := ⟨Tryd.func195, by kernel_rfl, by kernel_rfl⟩
theorem b167 {gl : GL} : Body (C gl).P 167 Tryd.f167 (codeOf Tryd.f167) := ⟨Tryd.func167, by kernel_rfl, by kernel_rfl⟩
theorem b165 {gl : GL} : Body (C gl).P 165 Tryd.f165 (codeOf Tryd.f165) := ⟨Tryd.func165, by kernel_rfl, by kernel_rfl⟩
theorem b101 {gl : GL} : Body (C gl).P 101 Tryd.f101 (codeOf Tryd.f101) := ⟨Tryd.func101, by kernel_rfl, by kernel_rfl⟩
/-! ## The reference's reader: the walk -/
def rbox (ns l : List Bs) (bad : Bool) : AObj := .box [.list false (l.map encT), .list false (ns.map encT), .bool bad]
section
variable {gl : GL}
theorem prefix2_ok (t : Bs) : PCall (C gl) 195 [.str (tx t)] (.int .i64 (preI t)) := by
  refine pcallX (callX_of b195 (by simp [Tryd.ntmps195]) ?_) (by simp only [AllCl, cl_str, and_true]) (.int _ _)
  refine W.of ?_
  rw [Tryd.ntmps195]
  simp only [toK, codeOf, Tryd.f195, go_sem, seval, reduceCtorEq]
  cases c1 : t == [33] with
  | true =>
    have e : preI t = 3 := by simp only [preI, c1, Bool.false_eq_true, if_false, if_true]
    rw [e]
    have H := @c1
    refine autoA ?_
    try exact trivial
  | false =>
  cases c2 : t == [88] with
  | true =>
    have e : preI t = 8 := by simp only [preI, c1, c2, Bool.false_eq_true, if_false, if_true]
    rw [e]
    have H := And.intro @c1 @c2
    refine autoA ?_
    try exact trivial
  | false =>
  cases c3 : t == [70] with
  | true =>
    have e : preI t = 9 := by simp only [preI, c1, c2, c3, Bool.false_eq_true, if_false, if_true]
    rw [e]
    have H := And.intro @c1 (And.intro @c2 @c3)
    refine autoA ?_
    try exact trivial
  | false =>
  cases c4 : t == [71] with
  | true =>
    have e : preI t = 10 := by simp only [preI, c1, c2, c3, c4, Bool.false_eq_true, if_false, if_true]
    rw [e]
    have H := And.intro @c1 (And.intro @c2 (And.intro @c3 @c4))
    refine autoA ?_
    try exact trivial
  | false =>
  have e : preI t = -1 := by simp only [preI, c1, c2, c3, c4, Bool.false_eq_true, if_false]
  rw [e]
  have H := And.intro @c1 (And.intro @c2 (And.intro @c3 @c4))
  refine autoA ?_
  try exact trivial
instance prefix2_i (t : Bs) : Ctr (C gl) 195 [.str (tx t)] True (.int .i64 (preI t)) := ⟨fun _ => prefix2_ok t⟩
theorem takeF_ok (id : Nat) (ns l : List Bs) (s : Bs) (b : Bool) (hs : (nowS l == s) = false) (hne : s ≠ []) (σ : Sto) (hl : id < σ.next) (hg : σ.get id = some (rbox ns l b)) : CallX (C gl) 167 [.ptr id 0, .str (tx s)] σ (.bool false) σ := by
  refine callX_of b167 (by simp [Tryd.ntmps167]) ?_
  refine W.of ?_
  rw [Tryd.ntmps167]
  simp only [toK, codeOf, Tryd.f167, go_sem, seval, reduceCtorEq]
  have hb := hg
  simp only [rbox] at hg
  cases l with
  | nil =>
    have H := @hg
    refine autoA ?_
    try exact trivial
  | cons t r =>
    have hs : (t == s) = false := hs
    have et : encT t = .str (tx t) := rfl
    have hbn : (t != s) = true := by rw [bne, hs]; rfl
    have z : (((r.length + 1 : Nat) : Int) == 0) = false := beq_eq_false_iff_ne.2 (by omega)
    have H := And.intro @hg (And.intro @hs (And.intro @hbn (And.intro @z @et)))
    refine autoA ?_
    try exact trivial
theorem takeT_ok (id : Nat) (ns l : List Bs) (s : Bs) (b : Bool) (σ : Sto) (hl : id < σ.next) (hg : σ.get id = some (rbox ns (s :: l) b)) : CallX (C gl) 167 [.ptr id 0, .str (tx s)] σ (.bool true) (σ.set id (rbox ns l b)) := by
  refine callX_of b167 (by simp [Tryd.ntmps167]) ?_
  refine W.of ?_
  rw [Tryd.ntmps167]
  simp only [toK, codeOf, Tryd.f167, go_sem, seval, reduceCtorEq]
  simp only [rbox] at hg ⊢
  have hbn : (s != s) = false := by simp [bne]
  have et : encT s = .str (tx s) := rfl
  have bs : (s == s) = true := by simp
  have hm : (l.map encT).take l.length = l.map encT := by rw [← List.length_map (f := encT), List.take_length]
  have z : (((l.length + 1 : Nat) : Int) == 0) = false := beq_eq_false_iff_ne.2 (by omega)
  have H := And.intro @hg (And.intro @hbn (And.intro @hm (And.intro @z (And.intro @et @bs))))
  refine autoA ?_
  try exact trivial
  refine ⟨fun x hx => by (rw [← et, ← List.map_cons] at hx; obtain ⟨y, _, rfl⟩ := List.mem_map.1 hx; rfl), ?_⟩
  have H := trivial
  refine goB ?_
  first | exact trivial | clear H
  exact cut_set hl (by simp only [go_sem, seval, reduceCtorEq])
end
end Go.Sx

set_option maxRecDepth 100000
set_option maxHeartbeats 4000000
set_option linter.unusedSimpArgs false
set_option linter.unusedVariables false
set_option linter.unnecessarySimpa false
namespace Go.Sx
open Go Go.Lg Go.Proofs
section
variable {gl : GL}
def UnitOK (gl : GL) (n : Nat) : Prop := ∀ (id : Nat) (ns l : List Bs) (r : RR) (σ : Sto), rdF ns n .unit l = some r → ns.length < 1000000 → id < σ.next → σ.get id = some (rbox ns l false) →
  CallX (C gl) 165 [.ptr id 0] σ (encF r.1) (σ.set id (rbox ns r.2.1 r.2.2))
def ReadOK (gl : GL) (n : Nat) : Prop := ∀ (id : Nat) (ns l : List Bs) (s : Nat) (r : RR) (σ : Sto), 1 ≤ s → s ≤ 6 → rdF ns n (.read s) l = some r → ns.length < 1000000 → id < σ.next → σ.get id = some (rbox ns l false) →
  CallX (C gl) 101 [.ptr id 0, .int .i64 s] σ (encF r.1) (σ.set id (rbox ns r.2.1 r.2.2))
theorem unitR_ok {n : Nat} (hu : UnitOK gl n) (hr : ReadOK gl n) : UnitOK gl (n + 1) := by
  intro id ns l r σ h hns hl hg
  refine callX_of b165 (by simp [Tryd.ntmps165]) ?_
  refine W.of ?_
  rw [Tryd.ntmps165]
  simp only [toK, codeOf, Tryd.f165, go_sem, seval, reduceCtorEq]
  have nz_id : (id = σ.next) = False := by simp; omega
  have nx_id : ∀ j, (id = σ.next + j) = False := fun j => by simp; omega
  simp only [rbox] at hg ⊢
  cases l with
  | nil =>
    simp only [rdF, Option.some.injEq] at h
    subst h
    have H := And.intro @nz_id (And.intro @nx_id @hg)
    refine goB ?_
    first | exact trivial | clear H
    unfold zF
    refine ⟨le_of_nz ?_, ?_⟩
    · first | (simp only [go_sem, seval, reduceCtorEq, nz_id, nx_id, hg, encF_fold, encF_fold0, Fm.eta, encFs_fold1, encFs_fold2, encFs_fold3]; done) | (simp only [go_sem, seval, reduceCtorEq, nz_id, nx_id, hg, encF_fold, encF_fold0, Fm.eta, encFs_fold1, encFs_fold2, encFs_fold3]; rfl)
    have H := And.intro @nz_id (And.intro @nx_id @hg)
    exact cutA
  | cons t rest =>
    have z : (((rest.length + 1 : Nat) : Int) == 0) = false := beq_eq_false_iff_ne.2 (by omega)
    rw [show ([116, 114, 117, 101] : Bs) = trueT from rfl, show ([102, 97, 108, 115, 101] : Bs) = falseT from rfl]
    have et : encT t = .str (tx t) := rfl
    have hm : (rest.map encT).take rest.length = rest.map encT := by rw [← List.length_map (f := encT), List.take_length]
    have H := And.intro @nz_id (And.intro @nx_id (And.intro @hg (And.intro @z (And.intro @et @hm))))
    refine goB ?_
    first | exact trivial | clear H
    refine ⟨fun x hx => by (rw [← et, ← List.map_cons] at hx; obtain ⟨y, _, rfl⟩ := List.mem_map.1 hx; rfl), ?_⟩
    have H := And.intro @nz_id (And.intro @nx_id (And.intro @hg (And.intro @z (And.intro @et @hm))))
    refine goB ?_
    first | exact trivial | clear H
    refine callK_pureL (prefix2_ok (gl := gl) t) rfl ?_ ?_ ?_ <;> simp only [go_sem, seval, reduceCtorEq, nz_id, nx_id, hg, z, et, hm]
    have H := And.intro @nz_id (And.intro @nx_id (And.intro @hg (And.intro @z (And.intro @et @hm))))
    refine goB ?_
    first | exact trivial | clear H
    cases q : decide (0 ≤ preI t) with
    | true =>
      have hq := of_decide_eq_true q
      simp only [rdF, if_pos hq] at h
      cases e : rdF ns n .unit rest with
      | none => rw [e] at h; cases h
      | some x =>
        rw [e] at h
        simp only [Option.some.injEq] at h
        subst h
        have H := And.intro @nz_id (And.intro @nx_id (And.intro @hg (And.intro @z (And.intro @et (And.intro @hm @q)))))
        refine goB ?_
        first | exact trivial | clear H
        refine callK_x0 (hu id ns rest x _ e hns ltsA (by simp only [go_sem, seval, reduceCtorEq, nz_id, nx_id, hg, z, et, hm, rbox]; first | done | omega)) rfl ?_ ?_ ?_ <;> simp only [go_sem, seval, reduceCtorEq, nz_id, nx_id, hg, z, et, hm, encF_eq]
        have H := And.intro @nz_id (And.intro @nx_id (And.intro @hg (And.intro @z (And.intro @et @hm))))
        refine goB ?_
        first | exact trivial | clear H
        refine callK_pureL (rof_ok (gl := gl) false (preI t) [x.1]) rfl ?_ ?_ ?_ <;> simp only [go_sem, seval, reduceCtorEq, nz_id, nx_id, hg, z, et, hm, encF_eq, encFs]
        have H := And.intro @nz_id (And.intro @nx_id (And.intro @hg (And.intro @z (And.intro @et @hm))))
        refine goB ?_
        first | exact trivial | clear H
        simp only [rbox]
        have H := And.intro @nz_id (And.intro @nx_id (And.intro @hg (And.intro @z (And.intro @et @hm))))
        exact cutA
    | false =>
      have hq := of_decide_eq_false q
      simp only [rdF, if_neg hq] at h
      cases c2 : t == trueT with
      | true =>
        simp only [c2, if_true, Option.some.injEq] at h
        subst h
        have H := And.intro @nz_id (And.intro @nx_id (And.intro @hg (And.intro @z (And.intro @et (And.intro @hm (And.intro @q @c2))))))
        refine goB ?_
        first | exact trivial | clear H
        refine callK_pureL (rof_ok (gl := gl) false 0 []) rfl ?_ ?_ ?_ <;> simp only [go_sem, seval, reduceCtorEq, nz_id, nx_id, hg, z, et, hm, encF_eq, encFs]
        have H := And.intro @nz_id (And.intro @nx_id (And.intro @hg (And.intro @z (And.intro @et @hm))))
        refine goB ?_
        first | exact trivial | clear H
        have H := And.intro @nz_id (And.intro @nx_id (And.intro @hg (And.intro @z (And.intro @et @hm))))
        exact cutA
      | false =>
      cases c3 : t == falseT with
      | true =>
        simp only [c2, c3, Bool.false_eq_true, if_false, if_true, Option.some.injEq] at h
        subst h
        have H := And.intro @nz_id (And.intro @nx_id (And.intro @hg (And.intro @z (And.intro @et (And.intro @hm (And.intro @q (And.intro @c2 @c3)))))))
        refine goB ?_
        first | exact trivial | clear H
        refine callK_pureL (rof_ok (gl := gl) false 1 []) rfl ?_ ?_ ?_ <;> simp only [go_sem, seval, reduceCtorEq, nz_id, nx_id, hg, z, et, hm, encF_eq, encFs]
        have H := And.intro @nz_id (And.intro @nx_id (And.intro @hg (And.intro @z (And.intro @et @hm))))
        refine goB ?_
        first | exact trivial | clear H
        have H := And.intro @nz_id (And.intro @nx_id (And.intro @hg (And.intro @z (And.intro @et @hm))))
        exact cutA
      | false =>
      cases c4 : t == [40] with
      | true =>
        simp only [c2, c3, c4, Bool.false_eq_true, if_false, if_true] at h
        cases e : rdF ns n (.read 1) rest with
        | none => rw [e] at h; cases h
        | some x =>
          rw [e] at h
          simp only [Option.some.injEq] at h
          subst h
          have H := And.intro @nz_id (And.intro @nx_id (And.intro @hg (And.intro @z (And.intro @et (And.intro @hm (And.intro @q (And.intro @c2 (And.intro @c3 @c4))))))))
          refine goB ?_
          first | exact trivial | clear H
          refine callK_x0 (hr id ns rest 1 x _ (Nat.le_refl _) (by omega) e hns ltsA (by simp only [go_sem, seval, reduceCtorEq, nz_id, nx_id, hg, z, et, hm, rbox]; first | done | omega)) rfl ?_ ?_ ?_ <;> simp only [go_sem, seval, reduceCtorEq, nz_id, nx_id, hg, z, et, hm, encF_eq]
          cases hb : x.2.2 with
          | true =>
            have hc : closeR x = x := by simp only [closeR, hb, if_true]
            rw [hc]
            simp only [rbox]
            have H := And.intro @nz_id (And.intro @nx_id (And.intro @hg (And.intro @z (And.intro @et (And.intro @hm @hb)))))
            refine goB ?_
            first | exact trivial | clear H
            have H := And.intro @nz_id (And.intro @nx_id (And.intro @hg (And.intro @z (And.intro @et @hm))))
            exact cutA
          | false =>
          cases hz : (nowS x.2.1 == [41]) with
          | true =>
            have hc : closeR x = (x.1, x.2.1.drop 1, false) := by simp only [closeR, hb, hz, if_true, Bool.false_eq_true, if_false]
            obtain ⟨l2, hl2⟩ : ∃ l2, x.2.1 = [41] :: l2 := by
              cases hx : x.2.1 with
              | nil => rw [hx] at hz; exact absurd hz (by decide)
              | cons a l2 => rw [hx] at hz; exact ⟨l2, by rw [show a = [41] from eq_of_beq hz]⟩
            rw [hc]
            simp only [rbox]
            have H := And.intro @nz_id (And.intro @nx_id (And.intro @hg (And.intro @z (And.intro @et (And.intro @hm @hb)))))
            refine goB ?_
            first | exact trivial | clear H
            refine callK_x0 (takeT_ok (gl := gl) id ns l2 [41] false _ ltsA (by simp only [go_sem, seval, reduceCtorEq, nz_id, nx_id, hg, z, et, hm, rbox, hl2]; first | done | omega)) rfl ?_ ?_ ?_ <;> simp only [go_sem, seval, reduceCtorEq, nz_id, nx_id, hg, z, et, hm]
            simp only [rbox]
            have H := And.intro @nz_id (And.intro @nx_id (And.intro @hg (And.intro @z (And.intro @et @hm))))
            refine goB ?_
            first | exact trivial | clear H
            rw [hl2]
            have H := And.intro @nz_id (And.intro @nx_id (And.intro @hg (And.intro @z (And.intro @et @hm))))
            exact cutA
          | false =>
            have hc : closeR x = (x.1, x.2.1, true) := by simp only [closeR, hb, hz, Bool.false_eq_true, if_false]
            rw [hc]
            simp only [rbox]
            have H := And.intro @nz_id (And.intro @nx_id (And.intro @hg (And.intro @z (And.intro @et (And.intro @hm @hb)))))
            refine goB ?_
            first | exact trivial | clear H
            refine callK_x0 (takeF_ok (gl := gl) id ns x.2.1 [41] false hz (by decide) _ ltsA (by simp only [go_sem, seval, reduceCtorEq, nz_id, nx_id, hg, z, et, hm, rbox]; first | done | omega)) rfl ?_ ?_ ?_ <;> simp only [go_sem, seval, reduceCtorEq, nz_id, nx_id, hg, z, et, hm]
            have H := And.intro @nz_id (And.intro @nx_id (And.intro @hg (And.intro @z (And.intro @et @hm))))
            refine goB ?_
            first | exact trivial | clear H
            have H := And.intro @nz_id (And.intro @nx_id (And.intro @hg (And.intro @z (And.intro @et @hm))))
            exact cutA
      | false =>
        simp only [c2, c3, c4, Bool.false_eq_true, if_false] at h
        have H := And.intro @nz_id (And.intro @nx_id (And.intro @hg (And.intro @z (And.intro @et (And.intro @hm (And.intro @q (And.intro @c2 (And.intro @c3 @c4))))))))
        refine goB ?_
        first | exact trivial | clear H
        refine WK.rangeI (ns.length) [0, 2, 3, 74] [] (fun i => []) (fun i => ((σ.set id (.box [.list false (rest.map encT), .list false (ns.map encT), .bool false])).add (.box [.int .i64 0, .int .i64 0, .list true []]))) (fun i => ∀ x ∈ ns.take i, (t == x) = false) (by simp) (by omega) (by decide) (by simp only [go_sem, seval, reduceCtorEq, nz_id, nx_id, hg, z, et, hm]) (by simp only [go_sem, seval, reduceCtorEq, nz_id, nx_id, hg, z, et, hm]) (by simp only [go_sem, seval, reduceCtorEq, nz_id, nx_id, hg, z, et, hm, List.take_zero]) (by first | rfl | (simp only [go_sem, seval, reduceCtorEq, nz_id, nx_id, hg, z, et, hm]; done) | (refine Sto.ext' (by simp only [go_sem, seval, reduceCtorEq, nz_id, nx_id, hg, z, et, hm]) (fun i => ?_); simp only [go_sem, seval, reduceCtorEq, nz_id, nx_id, hg, z, et, hm]; repeat' split; all_goals (first | rfl | omega | simp_all))) ?_ ?_
        · intro i hi hI
          have e := map_getT encT ns i hi
          have e : (ns.map encT).getD i .undef = .str (tx ns[i]) := e
          simp only [go_sem, seval, reduceCtorEq, nz_id, nx_id, hg, z, et, hm, e]
          have H := And.intro @nz_id (And.intro @nx_id (And.intro @hg (And.intro @z (And.intro @et (And.intro @hm @e)))))
          refine goB ?_
          first | exact trivial | clear H
          cases hh : (t == ns[i]) with
          | true =>
            have e2 : idxT t ns = (i : Int) := by
              unfold idxT
              rw [idxF_drop _ ns 0 i hI, List.drop_eq_getElem_cons hi]
              simp [idxF, hh]
            rw [e2, if_neg (by omega)] at h
            simp only [Option.some.injEq] at h
            subst h
            have H := And.intro @nz_id (And.intro @nx_id (And.intro @hg (And.intro @z (And.intro @et (And.intro @hm (And.intro @e @hh))))))
            refine goB ?_
            first | exact trivial | clear H
            refine ⟨le_of_nz ?_, ?_⟩
            · first | (simp only [go_sem, seval, reduceCtorEq, nz_id, nx_id, hg, z, et, hm, e, encF_fold, encF_fold0, Fm.eta, encFs_fold1, encFs_fold2, encFs_fold3]; done) | (simp only [go_sem, seval, reduceCtorEq, nz_id, nx_id, hg, z, et, hm, e, encF_fold, encF_fold0, Fm.eta, encFs_fold1, encFs_fold2, encFs_fold3]; rfl)
            have H := And.intro @nz_id (And.intro @nx_id (And.intro @hg (And.intro @z (And.intro @et (And.intro @hm @e)))))
            exact cutA
          | false =>
            have H := And.intro @nz_id (And.intro @nx_id (And.intro @hg (And.intro @z (And.intro @et (And.intro @hm (And.intro @e @hh))))))
            refine goB ?_
            first | exact trivial | clear H
            exact take_stepT hi hI hh
        · intro hI
          rw [List.take_length] at hI
          have e2 : idxT t ns = -1 := by
            unfold idxT
            rw [idxF_drop _ ns 0 ns.length (by rw [List.take_length]; exact hI), List.drop_length]
            rfl
          rw [e2, if_pos (by omega)] at h
          simp only [Option.some.injEq] at h
          subst h
          simp only [go_sem, seval, reduceCtorEq, nz_id, nx_id, hg, z, et, hm]
          have H := And.intro @nz_id (And.intro @nx_id (And.intro @hg (And.intro @z (And.intro @et @hm))))
          refine goB ?_
          first | exact trivial | clear H
          unfold zF
          refine ⟨le_of_nz ?_, ?_⟩
          · first | (simp only [go_sem, seval, reduceCtorEq, nz_id, nx_id, hg, z, et, hm, encF_fold, encF_fold0, Fm.eta, encFs_fold1, encFs_fold2, encFs_fold3]; done) | (simp only [go_sem, seval, reduceCtorEq, nz_id, nx_id, hg, z, et, hm, encF_fold, encF_fold0, Fm.eta, encFs_fold1, encFs_fold2, encFs_fold3]; rfl)
          have H := And.intro @nz_id (And.intro @nx_id (And.intro @hg (And.intro @z (And.intro @et @hm))))
          exact cutA
theorem any_find {A : Type} (p : A → Bool) : ∀ l : List A, l.any p = (l.find? p).isSome
  | [] => rfl
  | x :: l => by rw [List.any_cons, List.find?_cons, any_find p l]; cases p x <;> rfl
/-- Whether a sign before the i-th takes the text's operator. -/
def fndS (s : Nat) (t : Bs) (i : Nat) : Bool := (sgT.take i).any fun x => (x.2.2.1 == (s : Int)) && (t == x.2.1)
def rdSt (σ : Sto) (id : Nat) (ns l : List Bs) (b : Bool) (f : Fm) : Sto :=
  ((σ.set id (rbox ns l b)).add (.box [.int .i64 0, .int .i64 0, .list true []])).add (.box [.int .i64 f.op, .int .i64 f.var, .list false (encFs f.args)])
theorem readR_ok {n : Nat} (hu : UnitOK gl n) (hr : ∀ m, m ≤ n → ReadOK gl m) : ReadOK gl (n + 1) := by
  intro id ns l s r σ hs1 hs6 h hns hl hg
  refine callX_of b101 (by simp [Tryd.ntmps101]) ?_
  refine W.of ?_
  rw [Tryd.ntmps101]
  simp only [toK, codeOf, Tryd.f101, go_sem, seval, reduceCtorEq]
  have nz_id : (id = σ.next) = False := by simp; omega
  have nx_id : ∀ j, (id = σ.next + j) = False := fun j => by simp; omega
  have q : decide ((s : Int) > 5) = decide (5 < s) := by rw [decide_eq_decide]; omega
  simp only [rdF] at h
  by_cases hs : 5 < s
  · rw [if_pos hs] at h
    have q : decide (5 < (s : Int)) = true := decide_eq_true (by omega)
    have H := And.intro @nz_id (And.intro @nx_id (And.intro @hg @q))
    refine goB ?_
    first | exact trivial | clear H
    refine callK_x0 (hu id ns l r _ h hns ltsA (by simp only [go_sem, seval, reduceCtorEq, nz_id, nx_id, hg, rbox]; first | done | omega)) rfl ?_ ?_ ?_ <;> simp only [go_sem, seval, reduceCtorEq, nz_id, nx_id, hg, encF_eq]
    simp only [rbox]
    have H := And.intro @nz_id (And.intro @nx_id @hg)
    refine goB ?_
    first | exact trivial | clear H
    have H := And.intro @nz_id (And.intro @nx_id @hg)
    exact cutA
  · rw [if_neg hs] at h
    have q : decide (5 < (s : Int)) = false := decide_eq_false (by omega)
    cases e : rdF ns n (.read (s + 1)) l with
    | none => rw [e] at h; cases h
    | some x =>
    rw [e] at h
    simp only at h
    have hw : IntKind.i64.wrap ((s : Int) + 1) = ((s + 1 : Nat) : Int) := by rw [wrap_lt (by omega) (by omega)]; rfl
    have H := And.intro @nz_id (And.intro @nx_id (And.intro @hg (And.intro @hw @q)))
    refine goB ?_
    first | exact trivial | clear H
    refine callK_x0 (hr n (Nat.le_refl _) id ns l (s + 1) x _ (by omega) (by omega) e hns ltsA (by simp only [go_sem, seval, reduceCtorEq, nz_id, nx_id, hg, hw, rbox]; first | done | omega)) rfl ?_ ?_ ?_ <;> simp only [go_sem, seval, reduceCtorEq, nz_id, nx_id, hg, hw, encF_eq]
    simp only [rbox]
    have H := And.intro @nz_id (And.intro @nx_id (And.intro @hg @hw))
    refine goB ?_
    first | exact trivial | clear H
    refine WK.block ?_
    refine WK.loopX [0, 1, 4, 5] [] (fun _ : Nat × Fm × List Bs × Bool => []) (fun t => ((σ.set id (.box [.list false (t.2.2.1.map encT), .list false (ns.map encT), .bool t.2.2.2])).add (.box [.int .i64 0, .int .i64 0, .list true []])).add (.box [.int .i64 t.2.1.op, .int .i64 t.2.1.var, .list false (encFs t.2.1.args)])) (fun t => (t.2.2.2 = true ∧ r = (t.2.1, t.2.2.1, true)) ∨ (t.2.2.2 = false ∧ t.1 ≤ n ∧ rdF ns t.1 (.loop s t.2.1) t.2.2.1 = some r)) (fun t => t.1) (n, x.1, x.2.1, x.2.2) (by decide) ?_ (by simp only [go_sem, seval, reduceCtorEq]) (by rfl) ?_
    · cases hb : x.2.2 with
      | true =>
        simp only [hb, if_true, Option.some.injEq] at h
        exact .inl ⟨rfl, by rw [← h, ← hb]⟩
      | false =>
        simp only [hb, Bool.false_eq_true, if_false] at h
        exact .inr ⟨rfl, Nat.le_refl _, h⟩
    rintro ⟨m, g, k, b⟩ hI
    simp only at hI
    rcases hI with ⟨rfl, rfl⟩ | ⟨rfl, hm, hI⟩
    · simp only [go_sem, seval, reduceCtorEq]
      have H := And.intro @nz_id (And.intro @nx_id (And.intro @hg @hw))
      refine goB ?_
      first | exact trivial | clear H
      have H := And.intro @nz_id (And.intro @nx_id (And.intro @hg @hw))
      exact cutA
    cases m with
    | zero => simp only [rdF] at hI; cases hI
    | succ m =>
    simp only [go_sem, seval, reduceCtorEq]
    have H := And.intro @nz_id (And.intro @nx_id (And.intro @hg @hw))
    refine goB ?_
    first | exact trivial | clear H
    obtain ⟨F', l2, b2, HB⟩ : ∃ (F' : Fm) (l2 : List Bs) (b2 : Bool), ∀ x, sgAt s (nowS k) = some x → ∃ y, rdF ns m (.read (if x.2.2.2 then s else s + 1)) (k.drop 1) = some y ∧ F' = .mk x.1 0 [g, y.1] ∧ l2 = y.2.1 ∧ b2 = y.2.2 := by
      cases hsg : sgAt s (nowS k) with
      | none => exact ⟨g, k, false, fun x hx => by cases hx⟩
      | some x =>
        simp only [rdF, hsg] at hI
        cases e2 : rdF ns m (.read (if x.2.2.2 then s else s + 1)) (k.drop 1) with
        | none => rw [e2] at hI; cases hI
        | some y => exact ⟨.mk x.1 0 [g, y.1], y.2.1, y.2.2, fun x' hx' => by cases hx'; exact ⟨y, e2, rfl, rfl, rfl⟩⟩
    have sl : sgT.length = 7 := rfl
    refine callK_pureL (signs_ok (gl := gl)) rfl ?_ ?_ ?_ <;> simp only [go_sem, seval, reduceCtorEq, nz_id, nx_id, hg, hw, sl]
    have H := And.intro @nz_id (And.intro @nx_id (And.intro @hg (And.intro @hw @sl)))
    refine goB ?_
    first | exact trivial | clear H
    have h0 : fndS s (nowS k) 0 = false := rfl
    refine WK.rangeX (7) [0, 1, 4, 5, 22] [6] (fun i => [.bool (fndS s (nowS k) i)]) (fun i => (((σ.set id (.box [.list false ((if fndS s (nowS k) i = true then l2 else k).map encT), .list false (ns.map encT), .bool (if fndS s (nowS k) i = true then b2 else false)])).add (.box [.int .i64 0, .int .i64 0, .list true []])).add (.box [.int .i64 (if fndS s (nowS k) i = true then F' else g).op, .int .i64 (if fndS s (nowS k) i = true then F' else g).var, .list false (encFs (if fndS s (nowS k) i = true then F' else g).args)]))) (by omega) (by decide) (by simp only [go_sem, seval, reduceCtorEq, nz_id, nx_id, hg, hw, sl, h0]) (by simp only [go_sem, seval, reduceCtorEq, nz_id, nx_id, hg, hw, sl, h0]) (by simp only [go_sem, seval, reduceCtorEq, nz_id, nx_id, hg, hw, sl, h0, List.take_zero]) (by first | rfl | (simp only [go_sem, seval, reduceCtorEq, nz_id, nx_id, hg, hw, sl, h0]; done) | (refine Sto.ext' (by simp only [go_sem, seval, reduceCtorEq, nz_id, nx_id, hg, hw, sl, h0]) (fun i => ?_); simp only [go_sem, seval, reduceCtorEq, nz_id, nx_id, hg, hw, sl, h0]; repeat' split; all_goals (first | rfl | omega | simp_all))) ?_ ?_
    · intro i hi
      have hil : i < sgT.length := hi
      have e := sgT_get i hil
      have hsucc : fndS s (nowS k) (i + 1) = (fndS s (nowS k) i || ((sgT[i].2.2.1 == (s : Int)) && (nowS k == sgT[i].2.1))) := by
        unfold fndS
        rw [← List.take_append_getElem hil, List.any_append]; simp
      have hfind : fndS s (nowS k) i = false → (sgT[i].2.2.1 == (s : Int)) = true → (nowS k == sgT[i].2.1) = true → sgAt s (nowS k) = some sgT[i] := fun h1 h2 h3 => by
        unfold sgAt
        conv => lhs; rw [← List.take_append_drop i sgT, List.find?_append]
        have : (sgT.take i).find? (fun x => (x.2.2.1 == (s : Int)) && (nowS k == x.2.1)) = none := List.find?_eq_none.2 fun x hx => by
          have := (List.any_eq_false.1 h1) x hx
          simpa using this
        rw [this, Option.none_or, List.drop_eq_getElem_cons hil, List.find?_cons, h2, h3]; rfl
      have hne : sgT[i].2.1 ≠ [] := (show ∀ x ∈ sgT, x.2.1 ≠ [] by decide) _ (List.getElem_mem hil)
      generalize sgT[i] = x at e hsucc hfind hne
      obtain ⟨xo, xt, xs, xr⟩ := x
      simp only at e hsucc hfind hne
      cases hf : fndS s (nowS k) i with
      | true =>
        have hf' : fndS s (nowS k) (i + 1) = true := by rw [hsucc, hf]; rfl
        simp only [go_sem, seval, reduceCtorEq, nz_id, nx_id, hg, hw, sl, h0, e, hi, hf, hf']
        have H := And.intro @nz_id (And.intro @nx_id (And.intro @hg (And.intro @hw (And.intro @sl (And.intro @h0 (And.intro @e (And.intro @hi (And.intro @hf @hf'))))))))
        refine goB ?_
        first | exact trivial | clear H
        have H := And.intro @nz_id (And.intro @nx_id (And.intro @hg (And.intro @hw (And.intro @sl (And.intro @h0 (And.intro @e @hi))))))
        exact cutA
      | false =>
      cases p1 : (xs == (s : Int)) with
      | false =>
        have hf' : fndS s (nowS k) (i + 1) = false := by rw [hsucc, hf, p1]; rfl
        simp only [go_sem, seval, reduceCtorEq, nz_id, nx_id, hg, hw, sl, h0, e, hi, hf, hf']
        have H := And.intro @nz_id (And.intro @nx_id (And.intro @hg (And.intro @hw (And.intro @sl (And.intro @h0 (And.intro @e (And.intro @hi (And.intro @hf (And.intro @hf' @p1)))))))))
        refine goB ?_
        first | exact trivial | clear H
        have H := And.intro @nz_id (And.intro @nx_id (And.intro @hg (And.intro @hw (And.intro @sl (And.intro @h0 (And.intro @e @hi))))))
        exact cutA
      | true =>
      cases p2 : (nowS k == xt) with
      | false =>
        have hf' : fndS s (nowS k) (i + 1) = false := by rw [hsucc, hf, p1, p2]; rfl
        simp only [go_sem, seval, reduceCtorEq, nz_id, nx_id, hg, hw, sl, h0, e, hi, hf, hf']
        have H := And.intro @nz_id (And.intro @nx_id (And.intro @hg (And.intro @hw (And.intro @sl (And.intro @h0 (And.intro @e (And.intro @hi (And.intro @hf (And.intro @hf' @p1)))))))))
        refine goB ?_
        first | exact trivial | clear H
        refine callK_x0 (takeF_ok (gl := gl) id ns k xt false p2 hne _ ltsA (by simp only [go_sem, seval, reduceCtorEq, nz_id, nx_id, hg, hw, sl, h0, e, hi, rbox]; first | done | omega)) rfl ?_ ?_ ?_ <;> simp only [go_sem, seval, reduceCtorEq, nz_id, nx_id, hg, hw, sl, h0, e, hi]
        have H := And.intro @nz_id (And.intro @nx_id (And.intro @hg (And.intro @hw (And.intro @sl (And.intro @h0 (And.intro @e (And.intro @hi (And.intro @hf @hf'))))))))
        refine goB ?_
        first | exact trivial | clear H
        have H := And.intro @nz_id (And.intro @nx_id (And.intro @hg (And.intro @hw (And.intro @sl (And.intro @h0 (And.intro @e @hi))))))
        exact cutA
      | true =>
        have hf' : fndS s (nowS k) (i + 1) = true := by rw [hsucc, hf, p1, p2]; rfl
        obtain ⟨y, hy, hF, hl2, hb2⟩ := HB _ (hfind hf p1 p2)
        obtain ⟨k', hk'⟩ : ∃ k', k = xt :: k' := by
          cases hk : k with
          | nil => rw [hk] at p2; exact absurd (eq_of_beq p2).symm hne
          | cons a k' => rw [hk] at p2; exact ⟨k', by rw [show a = xt from eq_of_beq p2]⟩
        have hsx : xs = (s : Int) := eq_of_beq p1
        have hd : k.drop 1 = k' := by rw [hk']; rfl
        rw [hd] at hy
        simp only [go_sem, seval, reduceCtorEq, nz_id, nx_id, hg, hw, sl, h0, e, hi, hf, hf']
        have H := And.intro @nz_id (And.intro @nx_id (And.intro @hg (And.intro @hw (And.intro @sl (And.intro @h0 (And.intro @e (And.intro @hi (And.intro @hf (And.intro @hf' @p1)))))))))
        refine goB ?_
        first | exact trivial | clear H
        refine callK_x0 (takeT_ok (gl := gl) id ns k' xt false _ ltsA (by simp only [go_sem, seval, reduceCtorEq, nz_id, nx_id, hg, hw, sl, h0, e, hi, rbox, hk']; first | done | omega)) rfl ?_ ?_ ?_ <;> simp only [go_sem, seval, reduceCtorEq, nz_id, nx_id, hg, hw, sl, h0, e, hi]
        simp only [rbox]
        cases p3 : xr with
        | true =>
          rw [p3, if_pos rfl] at hy
          have H := And.intro @nz_id (And.intro @nx_id (And.intro @hg (And.intro @hw (And.intro @sl (And.intro @h0 (And.intro @e (And.intro @hi (And.intro @hf' @p3))))))))
          refine goB ?_
          first | exact trivial | clear H
          refine WK.draw [⟨false, 0, 0⟩, ⟨false, 0, 1⟩, ⟨false, 0, 1⟩, ⟨false, 0, 0⟩, ⟨false, 0, 0⟩, ⟨true, 0, 0⟩, ⟨false, 0, 0⟩, ⟨true, 0, 0⟩, ⟨true, 0, 0⟩] mixed (by kernel_rfl) ?_
          simp only [go_sem, seval, reduceCtorEq, nz_id, nx_id, hg, hw, sl, h0, e, hi, hf', p3]
          refine callD_x0 (hr m (by omega) id ns k' s y _ hs1 hs6 hy hns ltsA (by simp only [go_sem, seval, reduceCtorEq, nz_id, nx_id, hg, hw, sl, h0, e, hi, rbox]; first | done | omega)) rfl ?_ ?_ ?_ <;> simp only [go_sem, seval, reduceCtorEq, nz_id, nx_id, hg, hw, sl, h0, e, hi, encF_eq]
          refine callD_pure (rof_ok (gl := gl) true xo [g, y.1]) rfl ?_ ?_ ?_ <;> simp only [go_sem, seval, reduceCtorEq, nz_id, nx_id, hg, hw, sl, h0, e, hi, encF_eq, encFs]
          have H := And.intro @nz_id (And.intro @nx_id (And.intro @hg (And.intro @hw (And.intro @sl (And.intro @h0 (And.intro @e (And.intro @hi (And.intro @hf' @p3))))))))
          refine goB ?_
          first | exact trivial | clear H
          simp only [hf, hF, hl2, hb2, rbox, fm_op, fm_var, fm_args, encFs, encF_eq, Bool.false_eq_true, if_false]
          have H := And.intro @nz_id (And.intro @nx_id (And.intro @hg (And.intro @hw (And.intro @sl (And.intro @h0 (And.intro @e @hi))))))
          exact cutA
        | false =>
          rw [p3, if_neg Bool.false_ne_true] at hy
          have H := And.intro @nz_id (And.intro @nx_id (And.intro @hg (And.intro @hw (And.intro @sl (And.intro @h0 (And.intro @e (And.intro @hi (And.intro @hf' @p3))))))))
          refine goB ?_
          first | exact trivial | clear H
          refine WK.draw [⟨false, 0, 0⟩, ⟨false, 0, 1⟩, ⟨false, 0, 1⟩, ⟨false, 0, 0⟩, ⟨false, 0, 0⟩, ⟨false, 0, 0⟩, ⟨true, 0, 0⟩, ⟨false, 0, 0⟩, ⟨true, 0, 0⟩, ⟨true, 0, 0⟩] mixed (by kernel_rfl) ?_
          simp only [go_sem, seval, reduceCtorEq, nz_id, nx_id, hg, hw, sl, h0, e, hi, hf', p3]
          refine callD_x0 (hr m (by omega) id ns k' (s + 1) y _ (by omega) (by omega) hy hns ltsA (by simp only [go_sem, seval, reduceCtorEq, nz_id, nx_id, hg, hw, sl, h0, e, hi, rbox]; first | done | omega)) rfl ?_ ?_ ?_ <;> simp only [go_sem, seval, reduceCtorEq, nz_id, nx_id, hg, hw, sl, h0, e, hi, encF_eq]
          refine callD_pure (rof_ok (gl := gl) true xo [g, y.1]) rfl ?_ ?_ ?_ <;> simp only [go_sem, seval, reduceCtorEq, nz_id, nx_id, hg, hw, sl, h0, e, hi, encF_eq, encFs]
          have H := And.intro @nz_id (And.intro @nx_id (And.intro @hg (And.intro @hw (And.intro @sl (And.intro @h0 (And.intro @e (And.intro @hi (And.intro @hf' @p3))))))))
          refine goB ?_
          first | exact trivial | clear H
          simp only [hf, hF, hl2, hb2, rbox, fm_op, fm_var, fm_args, encFs, encF_eq, Bool.false_eq_true, if_false]
          have H := And.intro @nz_id (And.intro @nx_id (And.intro @hg (And.intro @hw (And.intro @sl (And.intro @h0 (And.intro @e @hi))))))
          exact cutA
    · have h7 : fndS s (nowS k) 7 = (sgAt s (nowS k)).isSome := by
        exact any_find _ sgT
      cases hsg : sgAt s (nowS k) with
      | none =>
        rw [hsg] at h7
        have h7 : fndS s (nowS k) 7 = false := h7
        simp only [rdF, hsg, Option.some.injEq] at hI
        subst hI
        simp only [go_sem, seval, reduceCtorEq, nz_id, nx_id, hg, hw, sl, h0, h7]
        have H := And.intro @nz_id (And.intro @nx_id (And.intro @hg (And.intro @hw (And.intro @sl (And.intro @h0 @h7)))))
        refine goB ?_
        first | exact trivial | clear H
        have H := And.intro @nz_id (And.intro @nx_id (And.intro @hg (And.intro @hw (And.intro @sl @h0))))
        exact cutA
      | some x =>
        rw [hsg] at h7
        have h7 : fndS s (nowS k) 7 = true := h7
        obtain ⟨y, hy, hF, hl2, hb2⟩ := HB _ hsg
        simp only [rdF, hsg, hy] at hI
        simp only [go_sem, seval, reduceCtorEq, nz_id, nx_id, hg, hw, sl, h0, h7]
        have H := And.intro @nz_id (And.intro @nx_id (And.intro @hg (And.intro @hw (And.intro @sl (And.intro @h0 @h7)))))
        refine goB ?_
        first | exact trivial | clear H
        refine ⟨(m, F', l2, b2), ?_, Nat.lt_succ_self m, ?_⟩
        · simp only
          rw [hF, hl2, hb2]
          cases hyb : y.2.2 with
          | true =>
            rw [hyb, if_pos rfl] at hI
            exact .inl ⟨rfl, by rw [← Option.some.inj hI, ← hyb]⟩
          | false =>
            rw [hyb, if_neg Bool.false_ne_true] at hI
            exact .inr ⟨rfl, by omega, hI⟩
        simp only
        have H := And.intro @nz_id (And.intro @nx_id (And.intro @hg (And.intro @hw (And.intro @sl @h0))))
        exact cutA
theorem reader_all : ∀ n, UnitOK gl n ∧ ∀ m, m ≤ n → ReadOK gl m
  | 0 => by
    refine ⟨fun id ns l r σ h => by (simp only [rdF] at h; cases h), fun m hm => ?_⟩
    have hm0 : m = 0 := by omega
    subst hm0
    intro id ns l s r σ _ _ h
    simp only [rdF] at h
    cases h
  | n + 1 => by
    obtain ⟨h1, h2⟩ := reader_all n
    refine ⟨unitR_ok h1 (h2 n (Nat.le_refl _)), fun m hm => ?_⟩
    by_cases e : m = n + 1
    · subst e; exact readR_ok h1 h2
    · exact h2 m (by omega)
/-- read, whatever it comes to. -/
theorem read_ev {id : Nat} {ns l : List Bs} {s : Nat} {r : RR} {σ : Sto} (h1 : 1 ≤ s) (h6 : s ≤ 6) (h : Ev ns (.read s) l r) (hns : ns.length < 1000000) (hl : id < σ.next) (hg : σ.get id = some (rbox ns l false)) :
    CallX (C gl) 101 [.ptr id 0, .int .i64 s] σ (encF r.1) (σ.set id (rbox ns r.2.1 r.2.2)) := by
  obtain ⟨n, h⟩ := h
  exact (reader_all n).2 n (Nat.le_refl _) id ns l s r σ h1 h6 h hns hl hg
end
end Go.Sx
