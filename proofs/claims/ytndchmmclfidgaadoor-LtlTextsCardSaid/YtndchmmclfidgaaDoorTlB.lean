import Derived.Test.YtndchmmclfidgaaDoorTlA
set_option maxRecDepth 100000
set_option linter.unusedSimpArgs false
set_option linter.unusedVariables false
set_option linter.unnecessarySimpa false
namespace Go.Sx
open Go Go.Lg Go.Proofs

/-! ## The parser without fuel -/
def need : Md → Nat → Nat
  | .pre, n => 3 * n + 1
  | .bin _, n => 3 * n + 2
  | .loop _ _, n => 3 * n + 3
def eats : Md → Nat
  | .loop _ _ => 0
  | _ => 1
theorem parF_len (ns : List Bs) : ∀ (n : Nat) (md : Md) (l l' : List Bs) (f : Fm), parF ns n md l = some (f, l') → l'.length + eats md ≤ l.length
  | 0, _, _, _, _, h => by simp only [parF] at h; cases h
  | n + 1, .pre, l, l', f, h => by
    cases l with
    | nil => simp only [parF] at h; cases h
    | cons t r =>
    simp only [parF] at h
    simp only [eats, List.length_cons]
    split at h
    · cases h
    split at h
    · split at h
      · rename_i g u k e
        split at h
        · cases h
          have := parF_len ns n _ _ _ _ e
          simp only [eats, List.length_cons] at this
          omega
        · cases h
      · cases h
    split at h
    · cases h; omega
    split at h
    · cases h; omega
    split at h
    · split at h
      · rename_i g k e
        cases h
        have := parF_len ns n _ _ _ _ e
        simp only [eats] at this
        omega
      · cases h
    split at h
    · cases h
    · cases h; omega
  | n + 1, .bin least, l, l', f, h => by
    simp only [parF] at h
    simp only [eats]
    split at h
    · rename_i g k e
      have h1 := parF_len ns n _ _ _ _ e
      have h2 := parF_len ns n _ _ _ _ h
      simp only [eats] at h1 h2
      omega
    · cases h
  | n + 1, .loop least f0, l, l', f, h => by
    simp only [parF] at h
    simp only [eats]
    split at h
    · cases h; omega
    split at h
    · rename_i g k e
      have h1 := parF_len ns n _ _ _ _ e
      have h2 := parF_len ns n _ _ _ _ h
      simp only [eats, List.length_drop] at h1 h2
      omega
    · cases h
theorem opS_nil : opS [] = -1 := (rfl)
theorem stops_neg (least : Int) : stops least (-1) = true := by unfold stops; rfl
theorem parF_stab (ns : List Bs) : ∀ (n m : Nat) (md : Md) (l : List Bs), need md l.length ≤ n → need md l.length ≤ m → parF ns n md l = parF ns m md l
  | 0, m, md, l, h, _ => by cases md <;> simp [need] at h
  | n + 1, 0, md, l, _, h => by cases md <;> simp [need] at h
  | n + 1, m + 1, .pre, l, h1, h2 => by
    cases l with
    | nil => simp only [parF]
    | cons t r =>
      simp only [need, List.length_cons] at h1 h2
      have e1 := parF_stab ns n m (.bin 1) r (by simp only [need]; omega) (by simp only [need]; omega)
      have e2 := parF_stab ns n m .pre r (by simp only [need]; omega) (by simp only [need]; omega)
      simp only [parF, e1, e2]
  | n + 1, m + 1, .bin least, l, h1, h2 => by
    simp only [need] at h1 h2
    have e1 := parF_stab ns n m .pre l (by simp only [need]; omega) (by simp only [need]; omega)
    simp only [parF, e1]
    cases e : parF ns m .pre l with
    | none => rfl
    | some p =>
      obtain ⟨f, l'⟩ := p
      have := parF_len ns m _ _ _ _ e
      simp only [eats] at this
      exact parF_stab ns n m (.loop least f) l' (by simp only [need]; omega) (by simp only [need]; omega)
  | n + 1, m + 1, .loop least f, l, h1, h2 => by
    simp only [need] at h1 h2
    simp only [parF]
    cases hs : stops least (opS (nowS l)) with
    | true => rfl
    | false =>
      simp only [Bool.false_eq_true, if_false]
      cases l with
      | nil => rw [show nowS [] = [] from rfl, opS_nil, stops_neg] at hs; cases hs
      | cons t r =>
        simp only [List.length_cons] at h1 h2
        simp only [List.drop_succ_cons, List.drop_zero]
        rw [parF_stab ns n m (.bin (nxt (opS (nowS (t :: r))))) r (by simp only [need]; omega) (by simp only [need]; omega)]
        cases e : parF ns m (.bin (nxt (opS (nowS (t :: r))))) r with
        | none => rfl
        | some p =>
          obtain ⟨g, l'⟩ := p
          have := parF_len ns m _ _ _ _ e
          simp only [eats] at this
          exact parF_stab ns n m _ l' (by simp only [need]; omega) (by simp only [need]; omega)
def parT (ns : List Bs) (md : Md) (l : List Bs) : Option (Fm × List Bs) := parF ns (need md l.length) md l
def parQ (o : Option (Fm × List Bs)) : Option (Fm × List Bs) :=
  match o with
  | some (f, u :: l') => if u == [41] then some (f, l') else none
  | _ => none
def parU (k : Int) (o : Option (Fm × List Bs)) : Option (Fm × List Bs) :=
  match o with
  | some (f, l') => some (.mk k 0 [f], l')
  | none => none
theorem parT_pre (ns : List Bs) (t : Bs) (r : List Bs) : parT ns .pre (t :: r) =
    if t == [] then none else if t == [40] then parQ (parT ns (.bin 1) r) else if t == trueT then some (.mk 0 0 [], r) else if t == falseT then some (.mk 1 0 [], r)
    else if opPre t then parU (opS t) (parT ns .pre r) else if idxT t ns < 0 then none else some (.mk 2 (idxT t ns) [], r) := by
  unfold parT
  have e1 := parF_stab ns (3 * (r.length + 1)) (need (.bin 1) r.length) (.bin 1) r (by simp only [need]; omega) (Nat.le_refl _)
  have e2 := parF_stab ns (3 * (r.length + 1)) (need .pre r.length) .pre r (by simp only [need]; omega) (Nat.le_refl _)
  show parF ns (3 * (r.length + 1) + 1) .pre (t :: r) = _
  simp only [parF, e1, e2]
  rfl
def parB (ns : List Bs) (least : Int) (o : Option (Fm × List Bs)) : Option (Fm × List Bs) :=
  match o with
  | some (f, l') => parT ns (.loop least f) l'
  | none => none
theorem parT_bin (ns : List Bs) (least : Int) (l : List Bs) : parT ns (.bin least) l = parB ns least (parT ns .pre l) := by
  show parF ns (need .pre l.length + 1) (.bin least) l = _
  simp only [parF]
  unfold parB parT
  cases e : parF ns (need .pre l.length) .pre l with
  | none => rfl
  | some p =>
    obtain ⟨f, l'⟩ := p
    have := parF_len ns _ _ _ _ _ e
    simp only [eats] at this
    exact parF_stab ns _ _ _ l' (by simp only [need]; omega) (Nat.le_refl _)
def parL (ns : List Bs) (least o : Int) (f : Fm) (x : Option (Fm × List Bs)) : Option (Fm × List Bs) :=
  match x with
  | some (g, l') => parT ns (.loop least (.mk o 0 [f, g])) l'
  | none => none
theorem parT_loop (ns : List Bs) (least : Int) (f : Fm) (l : List Bs) : parT ns (.loop least f) l =
    if stops least (opS (nowS l)) then some (f, l) else parL ns least (opS (nowS l)) f (parT ns (.bin (nxt (opS (nowS l)))) (l.drop 1)) := by
  obtain ⟨N, hN⟩ : ∃ N, N = 3 * l.length + 2 := ⟨_, rfl⟩
  have e0 : parT ns (.loop least f) l = parF ns (N + 1) (.loop least f) l := by rw [hN]; rfl
  rw [e0]
  simp only [parF]
  cases hs : stops least (opS (nowS l)) with
  | true => rfl
  | false =>
    simp only [Bool.false_eq_true, if_false]
    cases l with
    | nil => rw [show nowS [] = [] from rfl, opS_nil, stops_neg] at hs; cases hs
    | cons t r =>
      simp only [List.drop_succ_cons, List.drop_zero]
      unfold parT parL
      simp only [List.length_cons] at hN
      rw [parF_stab ns N (need (.bin (nxt (opS (nowS (t :: r))))) r.length) _ r (by simp only [need]; omega) (Nat.le_refl _)]
      cases e : parF ns (need (.bin (nxt (opS (nowS (t :: r))))) r.length) (.bin (nxt (opS (nowS (t :: r))))) r with
      | none => rfl
      | some p =>
        obtain ⟨g, l'⟩ := p
        have := parF_len ns _ _ _ _ _ e
        simp only [eats] at this
        exact parF_stab ns _ _ _ l' (by simp only [need]; omega) (Nat.le_refl _)
/-! ## What is written, as tokens -/
def brkT (b : Bool) (s : List Bs) : List Bs := if b then [40] :: (s ++ [[41]]) else s
def lbr (o p : Int) : Bool := decide (stAt p < stAt o) || ((stAt p == stAt o) && riAt o)
def rbr (o q : Int) : Bool := decide (stAt q < stAt o) || ((stAt q == stAt o) && !riAt o)
def tkC (ns : List Bs) (o v : Int) (cs : List (Int × List Bs)) : List Bs :=
  if arAt o == 0 then (if o == 2 then [ns.getD v.toNat []] else [signAt o])
  else if arAt o == 1 then signAt o :: (match cs with | (p, s) :: _ => brkT (arAt p == 2) s | _ => [])
  else match cs with
    | (p, s) :: (q, t) :: _ => brkT (lbr o p) s ++ signAt o :: brkT (rbr o q) t
    | _ => []
mutual
def tkS (ns : List Bs) : Fm → List Bs
  | .mk o v l => tkC ns o v (tkL ns l)
def tkL (ns : List Bs) : List Fm → List (Int × List Bs)
  | [] => []
  | f :: l => (f.op, tkS ns f) :: tkL ns l
end
/-- The node's operator as a number below 14, the number of its arguments, its variable. -/
theorem node_of {n : Nat} {o v : Int} {l : List Fm} (hok : okNode n (.mk o v l) = true) :
    ∃ k : Nat, o = (k : Int) ∧ k < 14 ∧ (l.length : Int) = arityL.getD k 0 ∧ (k = 2 → ∃ i : Nat, v = (i : Int) ∧ i < n) ∧ (k ≠ 2 → v = 0) := by
  rw [okNode_eq] at hok
  simp only [Bool.and_eq_true, decide_eq_true_eq] at hok
  obtain ⟨⟨⟨ho1, ho2⟩, hal⟩, hv⟩ := hok
  obtain ⟨k, rfl⟩ := Int.eq_ofNat_of_zero_le ho1
  rw [Int.toNat_natCast] at hal
  refine ⟨k, rfl, by omega, hal, fun h => ?_, fun h => ?_⟩
  · subst h
    rw [if_pos (by rfl)] at hv
    simp only [Bool.and_eq_true, decide_eq_true_eq] at hv
    exact ⟨v.toNat, by omega, by omega⟩
  · rw [if_neg (by omega)] at hv
    exact of_decide_eq_true hv
theorem args1 {l : List Fm} (h : (l.length : Int) = 1) : ∃ g, l = [g] := by
  match l, h with
  | [], h => simp at h
  | [g], _ => exact ⟨g, rfl⟩
  | _ :: _ :: _, h => simp at h; omega
theorem args2 {l : List Fm} (h : (l.length : Int) = 2) : ∃ g k, l = [g, k] := by
  match l, h with
  | [], h => simp at h
  | [_], h => simp at h
  | [g, k], _ => exact ⟨g, k, rfl⟩
  | _ :: _ :: _ :: _, h => simp at h; omega
theorem args0 {l : List Fm} (h : (l.length : Int) = 0) : l = [] := by
  cases l with
  | nil => rfl
  | cons _ _ => simp at h; omega
/-! ## Parsing what is written -/
theorem st_pos : ∀ k, k < 14 → 1 ≤ strengthL.getD k 0 := by decide
theorem st_un : ∀ k, k < 14 → arityL.getD k 0 ≠ 2 → ∀ j, j < 14 → arityL.getD j 0 = 2 → strengthL.getD j 0 < strengthL.getD k 0 := by decide
theorem stops_of {least : Int} {k : Nat} (ha : arityL.getD k 0 = 2) : stops least (k : Int) = decide (strengthL.getD k 0 < least) := by
  unfold stops
  rw [Int.toNat_natCast, ha]
  have : decide ((k : Int) < 0) = false := decide_eq_false (by omega)
  rw [this]; simp
theorem nxt_nat (k : Nat) : nxt (k : Int) = if rightL.getD k false then strengthL.getD k 0 else strengthL.getD k 0 + 1 := by
  unfold nxt; rw [Int.toNat_natCast]
theorem loop_stop {ns : List Bs} {least : Int} {f : Fm} {l : List Bs} (h : stops least (opS (nowS l)) = true) : parT ns (.loop least f) l = some (f, l) := by
  rw [parT_loop, if_pos h]
/-- What is in brackets is one unit. -/
theorem pre_brk {ns : List Bs} {f : Fm} {s rest : List Bs} (h : parT ns (.bin 1) (s ++ [41] :: rest) = parT ns (.loop 1 f) ([41] :: rest)) : parT ns .pre (brkT true s ++ rest) = some (f, rest) := by
  have e : brkT true s ++ rest = [40] :: (s ++ [41] :: rest) := by simp [brkT]
  have z0 : (([40] : Bs) == []) = false := by decide
  rw [e, parT_pre, h, loop_stop (by show stops 1 (opS [41]) = true; decide), z0]
  simp [parQ]
def RT (ns : List Bs) (f : Fm) : Prop :=
  (∀ least rest, (arAt f.op = 2 → least ≤ stAt f.op ∧ stops (nxt f.op) (opS (nowS rest)) = true) → parT ns (.bin least) (tkS ns f ++ rest) = parT ns (.loop least f) rest) ∧
  (arAt f.op ≠ 2 → ∀ rest, parT ns .pre (tkS ns f ++ rest) = some (f, rest))
theorem RT.unit {ns : List Bs} {f : Fm} (h : RT ns f) {k : Nat} (hk : f.op = (k : Int)) (hk14 : k < 14) (rest : List Bs) : parT ns .pre (brkT (arAt f.op == 2) (tkS ns f) ++ rest) = some (f, rest) := by
  cases q : (arAt f.op == 2) with
  | true =>
    refine pre_brk (h.1 1 _ fun _ => ⟨?_, ?_⟩)
    · unfold stAt; rw [hk, Int.toNat_natCast]; exact st_pos k hk14
    · rw [show nowS ([41] :: rest) = [41] from rfl, show opS [41] = -1 from by decide]; exact stops_neg _
  | false => exact h.2 (by simpa using q) rest
theorem RT.side {ns : List Bs} {f : Fm} (h : RT ns f) {k : Nat} (hk : f.op = (k : Int)) (hk14 : k < 14) (b : Bool) (least : Int) (rest : List Bs)
    (hb : b = false → arAt f.op = 2 → least ≤ stAt f.op ∧ stops (nxt f.op) (opS (nowS rest)) = true) : parT ns (.bin least) (brkT b (tkS ns f) ++ rest) = parT ns (.loop least f) rest := by
  cases b with
  | true =>
    rw [parT_bin, pre_brk (f := f)]
    · rfl
    · refine h.1 1 _ fun _ => ⟨?_, ?_⟩
      · unfold stAt; rw [hk, Int.toNat_natCast]; exact st_pos k hk14
      · rw [show nowS ([41] :: rest) = [41] from rfl, show opS [41] = -1 from by decide]; exact stops_neg _
  | false => exact h.1 least rest (hb rfl)
end Go.Sx
