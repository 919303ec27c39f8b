import Derived.Test.YtndchmmclfidgaaDoorTlA
set_option maxRecDepth 100000
set_option linter.unusedSimpArgs false
set_option linter.unusedVariables false
set_option linter.unnecessarySimpa false
namespace Go.Sx
open Go Go.Lg Go.Proofs

/-! ## The parser without fuel -/
def need : Md → Nat → Nat
  | .pre, n => 3 * n + 1
  | .bin _, n => 3 * n + 2
  | .loop _ _, n => 3 * n + 3
def eats : Md → Nat
  | .loop _ _ => 0
  | _ => 1
theorem parF_len (ns : List Bs) : ∀ (n : Nat) (md : Md) (l l' : List Bs) (f : Fm), parF ns n md l = some (f, l') → l'.length + eats md ≤ l.length
  | 0, _, _, _, _, h => by simp only [parF] at h; cases h
  | n + 1, .pre, l, l', f, h => by
    cases l with
    | nil => simp only [parF] at h; cases h
    | cons t r =>
    simp only [parF] at h
    simp only [eats, List.length_cons]
    split at h
    · cases h
    split at h
    · split at h
      · rename_i g u k e
        split at h
        · cases h
          have := parF_len ns n _ _ _ _ e
          simp only [eats, List.length_cons] at this
          omega
        · cases h
      · cases h
    split at h
    · cases h; omega
    split at h
    · cases h; omega
    split at h
    · split at h
      · rename_i g k e
        cases h
        have := parF_len ns n _ _ _ _ e
        simp only [eats] at this
        omega
      · cases h
    split at h
    · cases h
    · cases h; omega
  | n + 1, .bin least, l, l', f, h => by
    simp only [parF] at h
    simp only [eats]
    split at h
    · rename_i g k e
      have h1 := parF_len ns n _ _ _ _ e
      have h2 := parF_len ns n _ _ _ _ h
      simp only [eats] at h1 h2
      omega
    · cases h
  | n + 1, .loop least f0, l, l', f, h => by
    simp only [parF] at h
    simp only [eats]
    split at h
    · cases h; omega
    split at h
    · rename_i g k e
      have h1 := parF_len ns n _ _ _ _ e
      have h2 := parF_len ns n _ _ _ _ h
      simp only [eats, List.length_drop] at h1 h2
      omega
    · cases h
theorem opS_nil : opS [] = -1 := (rfl)
theorem stops_neg (least : Int) : stops least (-1) = true := by unfold stops; rfl
theorem parF_stab (ns : List Bs) : ∀ (n m : Nat) (md : Md) (l : List Bs), need md l.length ≤ n → need md l.length ≤ m → parF ns n md l = parF ns m md l
  | 0, m, md, l, h, _ => by cases md <;> simp [need] at h
  | n + 1, 0, md, l, _, h => by cases md <;> simp [need] at h
  | n + 1, m + 1, .pre, l, h1, h2 => by
    cases l with
    | nil => simp only [parF]
    | cons t r =>
      simp only [need, List.length_cons] at h1 h2
      have e1 := parF_stab ns n m (.bin 1) r (by simp only [need]; omega) (by simp only [need]; omega)
      have e2 := parF_stab ns n m .pre r (by simp only [need]; omega) (by simp only [need]; omega)
      simp only [parF, e1, e2]
  | n + 1, m + 1, .bin least, l, h1, h2 => by
    simp only [need] at h1 h2
    have e1 := parF_stab ns n m .pre l (by simp only [need]; omega) (by simp only [need]; omega)
    simp only [parF, e1]
    cases e : parF ns m .pre l with
    | none => rfl
    | some p =>
      obtain ⟨f, l'⟩ := p
      have := parF_len ns m _ _ _ _ e
      simp only [eats] at this
      exact parF_stab ns n m (.loop least f) l' (by simp only [need]; omega) (by simp only [need]; omega)
  | n + 1, m + 1, .loop least f, l, h1, h2 => by
    simp only [need] at h1 h2
    simp only [parF]
    cases hs : stops least (opS (nowS l)) with
    | true => rfl
    | false =>
      simp only [Bool.false_eq_true, if_false]
      cases l with
      | nil => rw [show nowS [] = [] from rfl, opS_nil, stops_neg] at hs; cases hs
      | cons t r =>
        simp only [List.length_cons] at h1 h2
        simp only [List.drop_succ_cons, List.drop_zero]
        rw [parF_stab ns n m (.bin (nxt (opS (nowS (t :: r))))) r (by simp only [need]; omega) (by simp only [need]; omega)]
        cases e : parF ns m (.bin (nxt (opS (nowS (t :: r))))) r with
        | none => rfl
        | some p =>
          obtain ⟨g, l'⟩ := p
          have := parF_len ns m _ _ _ _ e
          simp only [eats] at this
          exact parF_stab ns n m _ l' (by simp only [need]; omega) (by simp only [need]; omega)
def parT (ns : List Bs) (md : Md) (l : List Bs) : Option (Fm × List Bs) := parF ns (need md l.length) md l
def parQ (o : Option (Fm × List Bs)) : Option (Fm × List Bs) :=
  match o with
  | some (f, u :: l') => if u == [41] then some (f, l') else none
  | _ => none
def parU (k : Int) (o : Option (Fm × List Bs)) : Option (Fm × List Bs) :=
  match o with
  | some (f, l') => some (.mk k 0 [f], l')
  | none => none
theorem parT_pre (ns : List Bs) (t : Bs) (r : List Bs) : parT ns .pre (t :: r) =
    if t == [] then none else if t == [40] then parQ (parT ns (.bin 1) r) else if t == trueT then some (.mk 0 0 [], r) else if t == falseT then some (.mk 1 0 [], r)
    else if opPre t then parU (opS t) (parT ns .pre r) else if idxT t ns < 0 then none else some (.mk 2 (idxT t ns) [], r) := by
  unfold parT
  have e1 := parF_stab ns (3 * (r.length + 1)) (need (.bin 1) r.length) (.bin 1) r (by simp only [need]; omega) (Nat.le_refl _)
  have e2 := parF_stab ns (3 * (r.length + 1)) (need .pre r.length) .pre r (by simp only [need]; omega) (Nat.le_refl _)
  show parF ns (3 * (r.length + 1) + 1) .pre (t :: r) = _
  simp only [parF, e1, e2]
  rfl
def parB (ns : List Bs) (least : Int) (o : Option (Fm × List Bs)) : Option (Fm × List Bs) :=
  match o with
  | some (f, l') => parT ns (.loop least f) l'
  | none => none
theorem parT_bin (ns : List Bs) (least : Int) (l : List Bs) : parT ns (.bin least) l = parB ns least (parT ns .pre l) := by
  show parF ns (need .pre l.length + 1) (.bin least) l = _
  simp only [parF]
  unfold parB parT
  cases e : parF ns (need .pre l.length) .pre l with
  | none => rfl
  | some p =>
    obtain ⟨f, l'⟩ := p
    have := parF_len ns _ _ _ _ _ e
    simp only [eats] at this
    exact parF_stab ns _ _ _ l' (by simp only [need]; omega) (Nat.le_refl _)
def parL (ns : List Bs) (least o : Int) (f : Fm) (x : Option (Fm × List Bs)) : Option (Fm × List Bs) :=
  match x with
  | some (g, l') => parT ns (.loop least (.mk o 0 [f, g])) l'
  | none => none
theorem parT_loop (ns : List Bs) (least : Int) (f : Fm) (l : List Bs) : parT ns (.loop least f) l =
    if stops least (opS (nowS l)) then some (f, l) else parL ns least (opS (nowS l)) f (parT ns (.bin (nxt (opS (nowS l)))) (l.drop 1)) := by
  obtain ⟨N, hN⟩ : ∃ N, N = 3 * l.length + 2 := ⟨_, rfl⟩
  have e0 : parT ns (.loop least f) l = parF ns (N + 1) (.loop least f) l := by rw [hN]; rfl
  rw [e0]
  simp only [parF]
  cases hs : stops least (opS (nowS l)) with
  | true => rfl
  | false =>
    simp only [Bool.false_eq_true, if_false]
    cases l with
    | nil => rw [show nowS [] = [] from rfl, opS_nil, stops_neg] at hs; cases hs
    | cons t r =>
      simp only [List.drop_succ_cons, List.drop_zero]
      unfold parT parL
      simp only [List.length_cons] at hN
      rw [parF_stab ns N (need (.bin (nxt (opS (nowS (t :: r))))) r.length) _ r (by simp only [need]; omega) (Nat.le_refl _)]
      cases e : parF ns (need (.bin (nxt (opS (nowS (t :: r))))) r.length) (.bin (nxt (opS (nowS (t :: r))))) r with
      | none => rfl
      | some p =>
        obtain ⟨g, l'⟩ := p
        have := parF_len ns _ _ _ _ _ e
        simp only [eats] at this
        exact parF_stab ns _ _ _ l' (by simp only [need]; omega) (Nat.le_refl _)
/-! ## What is written, as tokens -/
def brkT (b : Bool) (s : List Bs) : List Bs := if b then [40] :: (s ++ [[41]]) else s
def lbr (o p : Int) : Bool := decide (stAt p < stAt o) || ((stAt p == stAt o) && riAt o)
def rbr (o q : Int) : Bool := decide (stAt q < stAt o) || ((stAt q == stAt o) && !riAt o)
def tkC (ns : List Bs) (o v : Int) (cs : List (Int × List Bs)) : List Bs :=
  if arAt o == 0 then (if o == 2 then [ns.getD v.toNat []] else [signAt o])
  else if arAt o == 1 then signAt o :: (match cs with | (p, s) :: _ => brkT (arAt p == 2) s | _ => [])
  else match cs with
    | (p, s) :: (q, t) :: _ => brkT (lbr o p) s ++ signAt o :: brkT (rbr o q) t
    | _ => []
mutual
def tkS (ns : List Bs) : Fm → List Bs
  | .mk o v l => tkC ns o v (tkL ns l)
def tkL (ns : List Bs) : List Fm → List (Int × List Bs)
  | [] => []
  | f :: l => (f.op, tkS ns f) :: tkL ns l
end
theorem toks_brk (b : Bool) (s : Bs) : toksS (brk b s) = brkT b (toksS s) := by
  cases b with
  | false => rfl
  | true =>
    show toksS (40 :: (s ++ [41])) = [40] :: (toksS s ++ [[41]])
    rw [toks_one _ (by decide), toks_sep s [] (by decide), toks_one _ (by decide), toksS_nil]
theorem toks_brk_sp (b : Bool) (s r : Bs) : toksS (brk b s ++ 32 :: r) = brkT b (toksS s) ++ toksS r := by
  rw [toks_sep _ r (by decide), toks_sp, toks_brk]
theorem sign_sp : ∀ (k : Nat), k < 14 → arityL.getD k 0 = 2 → ∀ r : Bs, toksS (signsL.getD k [] ++ 32 :: r) = signsL.getD k [] :: toksS r := by
  intro k hk ha r
  obtain rfl | rfl | rfl | rfl | rfl | rfl | rfl | rfl | rfl | rfl | rfl | rfl | rfl | rfl : k = 0 ∨ k = 1 ∨ k = 2 ∨ k = 3 ∨ k = 4 ∨ k = 5 ∨ k = 6 ∨ k = 7 ∨ k = 8 ∨ k = 9 ∨ k = 10 ∨ k = 11 ∨ k = 12 ∨ k = 13 := by omega
  · exact absurd ha (by decide)
  · exact absurd ha (by decide)
  · exact absurd ha (by decide)
  · exact absurd ha (by decide)
  · exact (toks_one _ (by decide)).trans (congrArg _ (toks_sp r))
  · exact (toks_one _ (by decide)).trans (congrArg _ (toks_sp r))
  · exact (toks_imp _).trans (congrArg _ (toks_sp r))
  · exact (toks_iff _).trans (congrArg _ (toks_sp r))
  · exact absurd ha (by decide)
  · exact absurd ha (by decide)
  · exact absurd ha (by decide)
  · exact (toks_one _ (by decide)).trans (congrArg _ (toks_sp r))
  · exact (toks_one _ (by decide)).trans (congrArg _ (toks_sp r))
  · exact (toks_one _ (by decide)).trans (congrArg _ (toks_sp r))
theorem sign_un : ∀ (k : Nat), k < 14 → arityL.getD k 0 = 1 → ∀ r : Bs, toksS ((signsL.getD k [] ++ if (k : Int) == 3 then [] else [32]) ++ r) = signsL.getD k [] :: toksS r := by
  intro k hk ha r
  obtain rfl | rfl | rfl | rfl | rfl | rfl | rfl | rfl | rfl | rfl | rfl | rfl | rfl | rfl : k = 0 ∨ k = 1 ∨ k = 2 ∨ k = 3 ∨ k = 4 ∨ k = 5 ∨ k = 6 ∨ k = 7 ∨ k = 8 ∨ k = 9 ∨ k = 10 ∨ k = 11 ∨ k = 12 ∨ k = 13 := by omega
  · exact absurd ha (by decide)
  · exact absurd ha (by decide)
  · exact absurd ha (by decide)
  · exact toks_one _ (by decide)
  · exact absurd ha (by decide)
  · exact absurd ha (by decide)
  · exact absurd ha (by decide)
  · exact absurd ha (by decide)
  · exact (toks_one _ (by decide)).trans (congrArg _ (toks_sp _))
  · exact (toks_one _ (by decide)).trans (congrArg _ (toks_sp _))
  · exact (toks_one _ (by decide)).trans (congrArg _ (toks_sp _))
  · exact absurd ha (by decide)
  · exact absurd ha (by decide)
  · exact absurd ha (by decide)
/-- The node's operator as a number below 14, the number of its arguments, its variable. -/
theorem node_of {n : Nat} {o v : Int} {l : List Fm} (hok : okNode n (.mk o v l) = true) :
    ∃ k : Nat, o = (k : Int) ∧ k < 14 ∧ (l.length : Int) = arityL.getD k 0 ∧ (k = 2 → ∃ i : Nat, v = (i : Int) ∧ i < n) ∧ (k ≠ 2 → v = 0) := by
  rw [okNode_eq] at hok
  simp only [Bool.and_eq_true, decide_eq_true_eq] at hok
  obtain ⟨⟨⟨ho1, ho2⟩, hal⟩, hv⟩ := hok
  obtain ⟨k, rfl⟩ := Int.eq_ofNat_of_zero_le ho1
  rw [Int.toNat_natCast] at hal
  refine ⟨k, rfl, by omega, hal, fun h => ?_, fun h => ?_⟩
  · subst h
    rw [if_pos (by rfl)] at hv
    simp only [Bool.and_eq_true, decide_eq_true_eq] at hv
    exact ⟨v.toNat, by omega, by omega⟩
  · rw [if_neg (by omega)] at hv
    exact of_decide_eq_true hv
theorem args1 {l : List Fm} (h : (l.length : Int) = 1) : ∃ g, l = [g] := by
  match l, h with
  | [], h => simp at h
  | [g], _ => exact ⟨g, rfl⟩
  | _ :: _ :: _, h => simp at h; omega
theorem args2 {l : List Fm} (h : (l.length : Int) = 2) : ∃ g k, l = [g, k] := by
  match l, h with
  | [], h => simp at h
  | [_], h => simp at h
  | [g, k], _ => exact ⟨g, k, rfl⟩
  | _ :: _ :: _ :: _, h => simp at h; omega
theorem args0 {l : List Fm} (h : (l.length : Int) = 0) : l = [] := by
  cases l with
  | nil => rfl
  | cons _ _ => simp at h; omega
theorem toks_wr (ns : List Bs) (hn : namedS ns = 0) (f : Fm) : (∀ g ∈ nodesF f, okNode ns.length g = true) → toksS (wrS ns f) = tkS ns f := by
  induction f using Fm.ind with
  | h o v l ih =>
    intro hok
    have hsub : ∀ g ∈ l, ∀ x ∈ nodesF g, okNode ns.length x = true := fun g hg x hx => hok x (by rw [nodesF]; exact List.mem_cons_of_mem _ (nodesL_sub hg hx))
    obtain ⟨k, rfl, hk, hal, hv2, hv0⟩ := node_of (hok _ (nodes_self _))
    rcases arL_nat k hk with ha | ha | ha
    · rw [ha] at hal
      have := args0 hal
      subst this
      cases q : ((k : Int) == 2) with
      | true =>
        have hk2 : k = 2 := by have := eq_of_beq q; omega
        obtain ⟨i, rfl, hi⟩ := hv2 hk2
        have hw := name_word (named_at hn hi).1
        have e3 : ns.getD i [] = ns[i] := by simp [List.getD_eq_getElem?_getD, hi]
        simp only [wrS, wrC, tkS, tkC, arAt, Int.toNat_natCast, ha, q, e3, beq_self_eq_true, if_true]
        exact toks_word hw.1
      | false =>
        simp only [wrS, wrC, tkS, tkC, arAt, Int.toNat_natCast, ha, q, signAt, beq_self_eq_true, if_true, Bool.false_eq_true, if_false]
        obtain rfl | rfl : k = 0 ∨ k = 1 := by
          obtain rfl | rfl | rfl | rfl | rfl | rfl | rfl | rfl | rfl | rfl | rfl | rfl | rfl | rfl : k = 0 ∨ k = 1 ∨ k = 2 ∨ k = 3 ∨ k = 4 ∨ k = 5 ∨ k = 6 ∨ k = 7 ∨ k = 8 ∨ k = 9 ∨ k = 10 ∨ k = 11 ∨ k = 12 ∨ k = 13 := by omega
          all_goals first | (left; rfl) | (right; rfl) | exact absurd ha (by decide) | cases q
        · exact toks_word (by decide)
        · exact toks_word (by decide)
    · rw [ha] at hal
      obtain ⟨g, rfl⟩ := args1 hal
      have e := ih g (by simp) (hsub g (by simp))
      have z1 : ((1 : Int) == 0) = false := by decide
      simp only [wrS, wrL, wrC, tkS, tkL, tkC, arAt, Int.toNat_natCast, ha, z1, beq_self_eq_true, if_true, Bool.false_eq_true, if_false, signAt]
      rw [sign_un k hk ha, toks_brk, e]
    · rw [ha] at hal
      obtain ⟨g, h, rfl⟩ := args2 hal
      have e1 := ih g (by simp) (hsub g (by simp))
      have e2 := ih h (by simp) (hsub h (by simp))
      have z1 : ((2 : Int) == 0) = false := by decide
      have z2 : ((2 : Int) == 1) = false := by decide
      simp only [wrS, wrL, wrC, tkS, tkL, tkC, arAt, Int.toNat_natCast, ha, z1, z2, beq_self_eq_true, if_true, Bool.false_eq_true, if_false, signAt]
      rw [List.append_assoc, List.append_assoc, List.append_assoc, List.singleton_append, toks_brk_sp, List.singleton_append, sign_sp k hk ha, toks_brk, e1, e2]
      rfl
/-! ## Parsing what is written -/
theorem op_sign : ∀ k, k < 14 → k ≠ 2 → opS (signsL.getD k []) = (k : Int) := by decide
theorem st_pos : ∀ k, k < 14 → 1 ≤ strengthL.getD k 0 := by decide
theorem st_ri : ∀ k, k < 14 → arityL.getD k 0 = 2 → ∀ j, j < 14 → arityL.getD j 0 = 2 → strengthL.getD k 0 = strengthL.getD j 0 → rightL.getD k false = rightL.getD j false := by decide
theorem st_un : ∀ k, k < 14 → arityL.getD k 0 ≠ 2 → ∀ j, j < 14 → arityL.getD j 0 = 2 → strengthL.getD j 0 < strengthL.getD k 0 := by decide
theorem stops_of {least : Int} {k : Nat} (ha : arityL.getD k 0 = 2) : stops least (k : Int) = decide (strengthL.getD k 0 < least) := by
  unfold stops
  rw [Int.toNat_natCast, ha]
  have : decide ((k : Int) < 0) = false := decide_eq_false (by omega)
  rw [this]; simp
theorem stops_mono {a b o : Int} (h : stops a o = true) (hab : a ≤ b) : stops b o = true := by
  unfold stops at h ⊢
  simp only [Bool.or_eq_true, decide_eq_true_eq] at h ⊢
  rcases h with h | h | h
  · exact .inl h
  · exact .inr (.inl h)
  · exact .inr (.inr (by omega))
theorem nxt_nat (k : Nat) : nxt (k : Int) = if rightL.getD k false then strengthL.getD k 0 else strengthL.getD k 0 + 1 := by
  unfold nxt; rw [Int.toNat_natCast]
theorem loop_stop {ns : List Bs} {least : Int} {f : Fm} {l : List Bs} (h : stops least (opS (nowS l)) = true) : parT ns (.loop least f) l = some (f, l) := by
  rw [parT_loop, if_pos h]
/-- What is in brackets is one unit. -/
theorem pre_brk {ns : List Bs} {f : Fm} {s rest : List Bs} (h : parT ns (.bin 1) (s ++ [41] :: rest) = parT ns (.loop 1 f) ([41] :: rest)) : parT ns .pre (brkT true s ++ rest) = some (f, rest) := by
  have e : brkT true s ++ rest = [40] :: (s ++ [41] :: rest) := by simp [brkT]
  have z0 : (([40] : Bs) == []) = false := by decide
  rw [e, parT_pre, h, loop_stop (by show stops 1 (opS [41]) = true; decide), z0]
  simp [parQ]
def RT (ns : List Bs) (f : Fm) : Prop :=
  (∀ least rest, (arAt f.op = 2 → least ≤ stAt f.op ∧ stops (nxt f.op) (opS (nowS rest)) = true) → parT ns (.bin least) (tkS ns f ++ rest) = parT ns (.loop least f) rest) ∧
  (arAt f.op ≠ 2 → ∀ rest, parT ns .pre (tkS ns f ++ rest) = some (f, rest))
theorem RT.unit {ns : List Bs} {f : Fm} (h : RT ns f) {k : Nat} (hk : f.op = (k : Int)) (hk14 : k < 14) (rest : List Bs) : parT ns .pre (brkT (arAt f.op == 2) (tkS ns f) ++ rest) = some (f, rest) := by
  cases q : (arAt f.op == 2) with
  | true =>
    refine pre_brk (h.1 1 _ fun _ => ⟨?_, ?_⟩)
    · unfold stAt; rw [hk, Int.toNat_natCast]; exact st_pos k hk14
    · rw [show nowS ([41] :: rest) = [41] from rfl, show opS [41] = -1 from by decide]; exact stops_neg _
  | false => exact h.2 (by simpa using q) rest
theorem RT.side {ns : List Bs} {f : Fm} (h : RT ns f) {k : Nat} (hk : f.op = (k : Int)) (hk14 : k < 14) (b : Bool) (least : Int) (rest : List Bs)
    (hb : b = false → arAt f.op = 2 → least ≤ stAt f.op ∧ stops (nxt f.op) (opS (nowS rest)) = true) : parT ns (.bin least) (brkT b (tkS ns f) ++ rest) = parT ns (.loop least f) rest := by
  cases b with
  | true =>
    rw [parT_bin, pre_brk (f := f)]
    · rfl
    · refine h.1 1 _ fun _ => ⟨?_, ?_⟩
      · unfold stAt; rw [hk, Int.toNat_natCast]; exact st_pos k hk14
      · rw [show nowS ([41] :: rest) = [41] from rfl, show opS [41] = -1 from by decide]; exact stops_neg _
  | false => exact h.1 least rest (hb rfl)
theorem rt_bin {ns : List Bs} {f : Fm} (h : ∀ rest, parT ns .pre (tkS ns f ++ rest) = some (f, rest)) (hne : arAt f.op ≠ 2) : RT ns f := by
  refine ⟨fun least rest _ => ?_, fun _ => h⟩
  rw [parT_bin, h]; rfl
theorem rt_all (ns : List Bs) (hn : namedS ns = 0) (f : Fm) : (∀ g ∈ nodesF f, okNode ns.length g = true) → RT ns f := by
  induction f using Fm.ind with
  | h o v l ih =>
    intro hok
    have hsub : ∀ g ∈ l, ∀ x ∈ nodesF g, okNode ns.length x = true := fun g hg x hx => hok x (by rw [nodesF]; exact List.mem_cons_of_mem _ (nodesL_sub hg hx))
    have hop : ∀ g ∈ l, ∃ k : Nat, g.op = (k : Int) ∧ k < 14 := fun g hg => by
      have := hsub g hg g (nodes_self _)
      obtain ⟨o', v', l'⟩ := g
      obtain ⟨k, h1, h2, _⟩ := node_of this
      exact ⟨k, h1, h2⟩
    obtain ⟨k, rfl, hk, hal, hv2, hv0⟩ := node_of (hok _ (nodes_self _))
    have eop : (Fm.mk (k : Int) v l).op = (k : Int) := rfl
    rcases arL_nat k hk with ha | ha | ha
    · rw [ha] at hal
      have := args0 hal
      subst this
      refine rt_bin (fun rest => ?_) (by rw [eop]; unfold arAt; rw [Int.toNat_natCast, ha]; decide)
      cases q : ((k : Int) == 2) with
      | true =>
        have hk2 : k = 2 := by have := eq_of_beq q; omega
        obtain ⟨i, rfl, hi⟩ := hv2 hk2
        obtain ⟨hw, w1, w2, _⟩ := name_word (named_at hn hi).1
        have hx := idxT_at hn hi
        have e3 : ns.getD i [] = ns[i] := by simp [List.getD_eq_getElem?_getD, hi]
        have et : tkS ns (.mk k i []) = [ns[i]] := by simp only [tkS, tkC, arAt, Int.toNat_natCast, ha, q, e3, beq_self_eq_true, if_true]
        have u0 : (ns[i] == []) = false := by
          cases hz : ns[i] with
          | nil => rw [hz] at hw; cases hw
          | cons _ _ => rfl
        have hlow : ∀ c : UInt8, lowI (c.toNat : Int) = false → (ns[i] == [c]) = false := fun c hc => by
          refine Bool.eq_false_iff.2 fun h => ?_
          rw [eq_of_beq h] at hw
          simp only [wordS, hc, Bool.false_and] at hw
          cases hw
        have u5 : opPre ns[i] = false := by
          unfold opPre
          rw [hlow 33 (by decide), hlow 88 (by decide), hlow 70 (by decide), hlow 71 (by decide)]; rfl
        rw [et, List.singleton_append, parT_pre, u0, hlow 40 (by decide), w1, w2, u5, hx]
        simp only [Bool.false_eq_true, if_false]
        rw [if_neg (by omega), hk2]
        rfl
      | false =>
        have hv := hv0 (by intro e; rw [e] at q; cases q)
        subst hv
        obtain rfl | rfl : k = 0 ∨ k = 1 := by
          obtain rfl | rfl | rfl | rfl | rfl | rfl | rfl | rfl | rfl | rfl | rfl | rfl | rfl | rfl : k = 0 ∨ k = 1 ∨ k = 2 ∨ k = 3 ∨ k = 4 ∨ k = 5 ∨ k = 6 ∨ k = 7 ∨ k = 8 ∨ k = 9 ∨ k = 10 ∨ k = 11 ∨ k = 12 ∨ k = 13 := by omega
          all_goals first | (left; rfl) | (right; rfl) | exact absurd ha (by decide) | cases q
        · rw [show tkS ns (.mk ((0 : Nat) : Int) 0 []) = [trueT] from rfl, List.singleton_append, parT_pre]; rfl
        · rw [show tkS ns (.mk ((1 : Nat) : Int) 0 []) = [falseT] from rfl, List.singleton_append, parT_pre]; rfl
    · rw [ha] at hal
      obtain ⟨g, rfl⟩ := args1 hal
      have hg := ih g (by simp) (hsub g (by simp))
      obtain ⟨kg, hkg, hkg14⟩ := hop g (by simp)
      have hv := hv0 (by rintro rfl; exact absurd ha (by decide))
      subst hv
      refine rt_bin (fun rest => ?_) (by rw [eop]; unfold arAt; rw [Int.toNat_natCast, ha]; decide)
      have z1 : ((1 : Int) == 0) = false := by decide
      have et : tkS ns (.mk k 0 [g]) = signsL.getD k [] :: brkT (arAt g.op == 2) (tkS ns g) := by
        simp only [tkS, tkL, tkC, arAt, Int.toNat_natCast, ha, z1, beq_self_eq_true, if_true, Bool.false_eq_true, if_false, signAt]
      rw [et, List.cons_append, parT_pre, hg.unit hkg hkg14, op_sign k hk (by rintro rfl; exact absurd ha (by decide))]
      obtain rfl | rfl | rfl | rfl : k = 3 ∨ k = 8 ∨ k = 9 ∨ k = 10 := by
        obtain rfl | rfl | rfl | rfl | rfl | rfl | rfl | rfl | rfl | rfl | rfl | rfl | rfl | rfl : k = 0 ∨ k = 1 ∨ k = 2 ∨ k = 3 ∨ k = 4 ∨ k = 5 ∨ k = 6 ∨ k = 7 ∨ k = 8 ∨ k = 9 ∨ k = 10 ∨ k = 11 ∨ k = 12 ∨ k = 13 := by omega
        all_goals first | omega | exact absurd ha (by decide)
      all_goals rfl
    · have hak := ha
      rw [ha] at hal
      obtain ⟨g, h, rfl⟩ := args2 hal
      have hg := ih g (by simp) (hsub g (by simp))
      have hh := ih h (by simp) (hsub h (by simp))
      obtain ⟨kg, hkg, hkg14⟩ := hop g (by simp)
      obtain ⟨kh, hkh, hkh14⟩ := hop h (by simp)
      have hv := hv0 (by rintro rfl; exact absurd ha (by decide))
      subst hv
      have eos : opS (signsL.getD k []) = (k : Int) := op_sign k hk (by rintro rfl; exact absurd ha (by decide))
      have z1 : ((2 : Int) == 0) = false := by decide
      have z2 : ((2 : Int) == 1) = false := by decide
      have et : tkS ns (.mk k 0 [g, h]) = brkT (lbr k g.op) (tkS ns g) ++ signsL.getD k [] :: brkT (rbr k h.op) (tkS ns h) := by
        simp only [tkS, tkL, tkC, arAt, Int.toNat_natCast, ha, z1, z2, beq_self_eq_true, if_true, Bool.false_eq_true, if_false, signAt]
      refine ⟨fun least rest hc => ?_, fun hne => absurd (by rw [eop]; unfold arAt; rw [Int.toNat_natCast, ha]) hne⟩
      obtain ⟨c1, c2⟩ := hc (by rw [eop]; unfold arAt; rw [Int.toNat_natCast, ha])
      rw [eop] at c1 c2
      simp only [stAt, Int.toNat_natCast] at c1
      rw [et, List.append_assoc, List.cons_append]
      rw [hg.side hkg hkg14 _ _ _ (fun hb hag => ?_)]
      · have hnow : nowS (signsL.getD k [] :: (brkT (rbr k h.op) (tkS ns h) ++ rest)) = signsL.getD k [] := rfl
        rw [parT_loop, hnow, eos, stops_of ha, if_neg (by rw [decide_eq_true_eq]; omega), List.drop_succ_cons, List.drop_zero]
        rw [hh.side hkh hkh14 _ _ _ (fun hb hah => ?_)]
        · rw [loop_stop c2]; rfl
        · unfold rbr stAt riAt at hb
          rw [hkh, Int.toNat_natCast, Int.toNat_natCast, Bool.or_eq_false_iff, decide_eq_false_iff_not] at hb
          obtain ⟨hb1, hb2⟩ := hb
          have hle : nxt (k : Int) ≤ strengthL.getD kh 0 := by
            rw [nxt_nat]
            cases hr : rightL.getD k false with
            | true => simp only [if_true]; omega
            | false =>
              simp only [Bool.false_eq_true, if_false]
              rw [hr, Bool.not_false, Bool.and_true, beq_eq_false_iff_ne] at hb2
              omega
          refine ⟨by unfold stAt; rw [hkh, Int.toNat_natCast]; exact hle, stops_mono c2 ?_⟩
          rw [hkh, nxt_nat kh]
          split <;> omega
      · have hnow : nowS (signsL.getD k [] :: (brkT (rbr k h.op) (tkS ns h) ++ rest)) = signsL.getD k [] := rfl
        rw [hnow, eos, stops_of ha]
        unfold lbr stAt riAt at hb
        unfold arAt at hag
        rw [hkg, Int.toNat_natCast] at hag
        rw [hkg, Int.toNat_natCast, Int.toNat_natCast, Bool.or_eq_false_iff, decide_eq_false_iff_not] at hb
        obtain ⟨hb1, hb2⟩ := hb
        refine ⟨by unfold stAt; rw [hkg, Int.toNat_natCast]; omega, decide_eq_true ?_⟩
        rw [hkg, nxt_nat]
        by_cases he : strengthL.getD kg 0 = strengthL.getD k 0
        · have hr := st_ri kg hkg14 hag k hk ha he
          have hk0 : rightL.getD k false = false := by
            rw [he, beq_self_eq_true, Bool.true_and] at hb2; exact hb2
          rw [hr, hk0]; simp only [Bool.false_eq_true, if_false]; omega
        · split <;> omega
/-- What is written is read again. -/
theorem parse_wr (ns : List Bs) (hn : namedS ns = 0) (f : Fm) (hok : ∀ g ∈ nodesF f, okNode ns.length g = true) : parT ns (.bin 1) (toksS (wrS ns f)) = some (f, []) := by
  rw [toks_wr ns hn f hok]
  have h := (rt_all ns hn f hok).1 1 [] fun _ => ⟨?_, ?_⟩
  · rw [List.append_nil] at h
    rw [h, loop_stop (by rw [show nowS [] = [] from rfl, opS_nil]; exact stops_neg _)]
  · have := hok f (nodes_self f)
    obtain ⟨o, v, l⟩ := f
    obtain ⟨k, rfl, hk, _⟩ := node_of this
    show 1 ≤ stAt (k : Int)
    unfold stAt; rw [Int.toNat_natCast]; exact st_pos k hk
  · rw [show nowS [] = [] from rfl, opS_nil]; exact stops_neg _
end Go.Sx
