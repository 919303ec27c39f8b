import Derived.Test.YtndchmmclfidgaaDoorTlM
set_option maxRecDepth 100000
set_option maxHeartbeats 4000000
set_option linter.unusedSimpArgs false
set_option linter.unusedVariables false
set_option linter.unnecessarySimpa false
namespace Go.Sx
open Go Go.Lg Go.Proofs
/-! ## Tokens that the reference takes -/
def setT : Bs := [40, 41, 33, 88, 70, 71, 124, 38, 85, 82, 87]
def goodT (t : Bs) : Bool :=
  match t with
  | [] => false
  | c :: r => lowI (c.toNat : Int) || ((t == iffT) || ((t == impT) || (r.isEmpty && setT.contains c)))
def refLen (l : Bs) : Nat :=
  match l with
  | [] => 0
  | c :: r => if lowI (c.toNat : Int) then idW (c :: r) else if c == 60 then (if pre (c :: r) iffT then 3 else 0) else if c == 45 then (if pre (c :: r) impT then 2 else 0) else if setT.contains c then 1 else 0
theorem low_pre {c : UInt8} {r : Bs} (h : lowI (c.toNat : Int) = true) : pre (c :: r) iffT = false ∧ pre (c :: r) impT = false := by
  constructor
  · cases e : pre (c :: r) iffT with
    | false => rfl
    | true =>
      have h1 := eq_of_beq (show ((c :: r).take 3 == iffT) = true from e)
      simp only [List.take_succ_cons, iffT, List.cons.injEq] at h1
      rw [h1.1] at h; exact absurd h (by decide)
  · cases e : pre (c :: r) impT with
    | false => rfl
    | true =>
      have h1 := eq_of_beq (show ((c :: r).take 2 == impT) = true from e)
      simp only [List.take_succ_cons, impT, List.cons.injEq] at h1
      rw [h1.1] at h; exact absurd h (by decide)
theorem pre_head {c d : UInt8} {r p : Bs} (h : pre (c :: r) (d :: p) = true) : c = d := by
  have h1 := eq_of_beq h
  simp only [List.length_cons, List.take_succ_cons, List.cons.injEq] at h1
  exact h1.1
theorem ref_good (c : UInt8) (r : Bs) : refLen (c :: r) = if goodT ((c :: r).take (tokLen (c :: r))) then tokLen (c :: r) else 0 := by
  have hby : byI (c :: r) 0 = (c.toNat : Int) := rfl
  simp only [refLen, tokLen, hby]
  cases h1 : lowI (c.toNat : Int) with
  | true =>
    obtain ⟨p1, p2⟩ := low_pre (r := r) h1
    simp only [if_true, p1, p2, Bool.false_eq_true, if_false]
    have : goodT ((c :: r).take (1 + idW ((c :: r).drop 1))) = true := by
      rw [Nat.add_comm, List.take_succ_cons]; simp only [goodT, h1, Bool.true_or]
    rw [this, if_pos rfl]
    have hc : idC c = true := by unfold idC idI; rw [h1]; rfl
    unfold idW
    rw [List.takeWhile_cons, if_pos hc, List.length_cons, Nat.add_comm]; rfl
  | false =>
    simp only [Bool.false_eq_true, if_false]
    cases h2 : c == 60 with
    | true =>
      obtain rfl := eq_of_beq h2
      simp only [if_true]
      cases p1 : pre (60 :: r) iffT with
      | true =>
        have e := eq_of_beq (show ((60 :: r).take 3 == iffT) = true from p1)
        simp only [if_true]; rw [e]; rfl
      | false =>
        have p2 : pre (60 :: r) impT = false := by
          cases e : pre (60 :: r) impT with
          | false => rfl
          | true => exact absurd (pre_head e) (by decide)
        simp only [p2, Bool.false_eq_true, if_false]
        rfl
    | false =>
      simp only [Bool.false_eq_true, if_false]
      have p1 : pre (c :: r) iffT = false := by
        cases e : pre (c :: r) iffT with
        | false => rfl
        | true => rw [pre_head e] at h2; exact absurd h2 (by decide)
      cases h3 : c == 45 with
      | true =>
        obtain rfl := eq_of_beq h3
        simp only [if_true, p1, Bool.false_eq_true, if_false]
        cases p2 : pre (45 :: r) impT with
        | true =>
          have e := eq_of_beq (show ((45 :: r).take 2 == impT) = true from p2)
          simp only [if_true]; rw [e]; rfl
        | false =>
          simp only [Bool.false_eq_true, if_false]
          rfl
      | false =>
        have p2 : pre (c :: r) impT = false := by
          cases e : pre (c :: r) impT with
          | false => rfl
          | true => rw [pre_head e] at h3; exact absurd h3 (by decide)
        simp only [p1, p2, Bool.false_eq_true, if_false, List.take_succ_cons, List.take_zero]
        have hg : goodT [c] = setT.contains c := by
          simp only [goodT, h1, Bool.false_or, List.isEmpty_nil, Bool.true_and]
          have q1 : ([c] == iffT) = false := beq_eq_false_iff_ne.2 fun e => by simp [iffT] at e
          have q2 : ([c] == impT) = false := beq_eq_false_iff_ne.2 fun e => by simp [impT] at e
          rw [q1, q2]; rfl
        rw [hg]
theorem sign_good : ∀ k, k < 14 → k ≠ 2 → goodT (signsL.getD k []) = true := by decide
/-- The parser eats good tokens alone. -/
theorem eat_good (ns : List Bs) (hN : ∀ t ∈ ns, goodT t = true) : ∀ (n : Nat) (md : Md) (l l' : List Bs) (f : Fm), parF ns n md l = some (f, l') → ∃ p, l = p ++ l' ∧ p.all goodT = true
  | 0, _, _, _, _, h => by simp only [parF] at h; cases h
  | n + 1, .pre, l, l', f, h => by
    cases l with
    | nil => simp only [parF] at h; cases h
    | cons t r =>
    simp only [parF] at h
    split at h
    · cases h
    split at h
    · rename_i ht
      split at h
      · rename_i g u k e
        split at h
        · rename_i hu
          cases h
          obtain ⟨p, rfl, hp⟩ := eat_good ns hN n _ _ _ _ e
          refine ⟨t :: (p ++ [u]), by simp, ?_⟩
          rw [eq_of_beq ht, eq_of_beq hu, List.all_cons, List.all_append, hp]; rfl
        · cases h
      · cases h
    split at h
    · rename_i ht; cases h
      exact ⟨[t], rfl, by rw [eq_of_beq ht]; rfl⟩
    split at h
    · rename_i ht; cases h
      exact ⟨[t], rfl, by rw [eq_of_beq ht]; rfl⟩
    split at h
    · rename_i ht
      split at h
      · rename_i g k e
        cases h
        obtain ⟨p, rfl, hp⟩ := eat_good ns hN n _ _ _ _ e
        refine ⟨t :: p, rfl, ?_⟩
        simp only [opPre, Bool.or_eq_true, beq_iff_eq] at ht
        rw [List.all_cons, hp]
        rcases ht with rfl | rfl | rfl | rfl <;> rfl
      · cases h
    split at h
    · cases h
    · rename_i hi
      cases h
      refine ⟨[t], rfl, ?_⟩
      obtain ⟨k, hk⟩ : ∃ k : Nat, idxT t ns = (k : Int) := ⟨(idxT t ns).toNat, by omega⟩
      obtain ⟨j, e, hj, hp⟩ := idxF_some (fun u => t == u) [] ns 0 k hk
      have ht : t = ns.getD j [] := eq_of_beq hp
      rw [List.getD_eq_getElem?_getD, List.getElem?_eq_getElem hj] at ht
      have : t ∈ ns := by rw [show t = ns[j] from ht]; exact List.getElem_mem hj
      simp only [List.all_cons, List.all_nil, hN t this, Bool.and_true]
  | n + 1, .bin least, l, l', f, h => by
    simp only [parF] at h
    split at h
    · rename_i g k e
      obtain ⟨p, rfl, hp⟩ := eat_good ns hN n _ _ _ _ e
      obtain ⟨p2, rfl, hp2⟩ := eat_good ns hN n _ _ _ _ h
      exact ⟨p ++ p2, by simp, by rw [List.all_append, hp, hp2]; rfl⟩
    · cases h
  | n + 1, .loop least f0, l, l', f, h => by
    simp only [parF] at h
    split at h
    · cases h; exact ⟨[], rfl, rfl⟩
    · rename_i hs
      split at h
      · rename_i g k e
        obtain ⟨p, hl, hp⟩ := eat_good ns hN n _ _ _ _ e
        obtain ⟨p2, rfl, hp2⟩ := eat_good ns hN n _ _ _ _ h
        cases l with
        | nil => exact absurd (show stops least (opS (nowS [])) = true by rw [show nowS [] = [] from rfl, opS_nil, stops_neg]) hs
        | cons t r =>
          have hl : r = p ++ (p2 ++ l') := hl
          obtain ⟨k, hk, ha, _⟩ := nstops (by simpa using hs)
          obtain ⟨hk14, htx⟩ := op_text hk
          have ht : t = signsL.getD k [] := htx
          have hg : goodT t = true := by
            rw [ht]; refine sign_good k hk14 fun e => ?_
            subst e; exact absurd ha (by decide)
          exact ⟨t :: (p ++ p2), by rw [hl]; simp, by rw [List.all_cons, hg, List.all_append, hp, hp2]; rfl⟩
      · cases h
theorem name_good {ns : List Bs} (h : namedS ns = 0) : ∀ t ∈ ns, goodT t = true := fun t ht => by
  obtain ⟨i, hi, rfl⟩ := List.mem_iff_getElem.1 ht
  have hw := (name_word (named_at h hi).1).1
  generalize ns[i] = t at hw
  cases t with
  | nil => cases hw
  | cons c r =>
    have : lowI (c.toNat : Int) = true := (Bool.and_eq_true _ _ ▸ hw : _ ∧ _).1
    simp only [goodT, this, Bool.true_or]
/-- What the reference's Parse answers. -/
def parseRS (ns : List Bs) (text : Bs) : Fm × Int :=
  if namedS ns ≠ 0 then (.mk 0 0 [], namedS ns) else if text.length > 16384 then (.mk 0 0 [], 3) else if (toksS text).all goodT then parO (parT ns (.bin 1) (toksS text)) else (.mk 0 0 [], 4)
theorem parseRS_eq (ns : List Bs) (text : Bs) : parseRS ns text = parseS ns text := by
  unfold parseRS parseS
  split
  · rfl
  split
  · rfl
  rename_i h _
  have h0 : namedS ns = 0 := by simpa using h
  split
  · rfl
  · rename_i hb
    cases e : parT ns (.bin 1) (toksS text) with
    | none => rfl
    | some x =>
      obtain ⟨f, l'⟩ := x
      obtain ⟨p, hl, hp⟩ := eat_good ns (name_good h0) _ _ _ _ _ e
      have : 0 < l'.length := by
        cases l' with
        | nil => rw [List.append_nil] at hl; rw [hl] at hb; exact absurd hp hb
        | cons u l' => simp
      simp only [parO, parA, if_pos this]
end Go.Sx
