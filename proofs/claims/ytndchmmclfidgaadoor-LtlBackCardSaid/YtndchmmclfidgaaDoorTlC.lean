import Derived.Test.YtndchmmclfidgaaDoorTlB
set_option maxRecDepth 100000
set_option linter.unusedSimpArgs false
set_option linter.unusedVariables false
set_option linter.unnecessarySimpa false
namespace Go.Sx
open Go Go.Lg Go.Proofs

/-! ## No bracket of what is written can be left out -/
def cnt (l : List Bs) : Nat := l.countP (· == [40])
theorem cnt_nil : cnt [] = 0 := (rfl)
theorem cnt_cons (t : Bs) (l : List Bs) : cnt (t :: l) = cnt l + if t == [40] then 1 else 0 := List.countP_cons
theorem cnt_app (a b : List Bs) : cnt (a ++ b) = cnt a + cnt b := List.countP_append
theorem cnt_brk (b : Bool) (s : List Bs) : cnt (brkT b s) = cnt s + if b then 1 else 0 := by
  cases b with
  | false => rfl
  | true =>
    show cnt ([40] :: (s ++ [[41]])) = _
    rw [cnt_cons, cnt_app, show cnt [[41]] = 0 from by decide]; simp
def penB (f : Fm) (least : Int) : Nat := if arAt f.op = 2 ∧ stAt f.op < least then 1 else 0
def opR (f : Fm) : Prop := ∃ k : Nat, f.op = (k : Int) ∧ k < 14
def parP (l l' : List Bs) (ns : List Bs) (f : Fm) : Md → Prop
  | .pre => opR f ∧ cnt l' + cnt (tkS ns f) + (if arAt f.op = 2 then 1 else 0) ≤ cnt l
  | .bin least => opR f ∧ cnt l' + cnt (tkS ns f) + penB f least ≤ cnt l ∧ stops least (opS (nowS l')) = true
  | .loop least g => opR g → opR f ∧ stops least (opS (nowS l')) = true ∧ ∀ c, (arAt g.op = 2 → 1 ≤ c ∨ (least ≤ stAt g.op ∧ stops (nxt g.op) (opS (nowS l)) = true)) → cnt l' + cnt (tkS ns f) + penB f least ≤ cnt l + cnt (tkS ns g) + c
theorem cnt_var {ns : List Bs} (hn : namedS ns = 0) (v : Int) (l : List Fm) : cnt (tkS ns (.mk 2 v l)) = 0 := by
  have e : tkS ns (.mk 2 v l) = [ns.getD v.toNat []] := by
    simp only [tkS, tkC]
    rw [if_pos (by decide), if_pos (by decide)]
  rw [e, cnt_cons, cnt_nil]
  by_cases hi : v.toNat < ns.length
  · have e3 : ns.getD v.toNat [] = ns[v.toNat] := by simp [List.getD_eq_getElem?_getD, hi]
    obtain ⟨hw, _⟩ := name_word (named_at hn hi).1
    have : (ns[v.toNat] == [40]) = false := by
      refine Bool.eq_false_iff.2 fun h => ?_
      rw [eq_of_beq h] at hw
      exact absurd hw (by decide)
    rw [e3, this]; rfl
  · have e3 : ns.getD v.toNat [] = [] := by simp [List.getD_eq_getElem?_getD, Nat.le_of_not_lt hi]
    rw [e3]; rfl
theorem opPre_k {t : Bs} (h : opPre t = true) : ∃ k : Nat, opS t = (k : Int) ∧ k < 14 ∧ arityL.getD k 0 = 1 ∧ signsL.getD k [] = t := by
  unfold opPre at h
  simp only [Bool.or_eq_true] at h
  rcases h with h | h | h | h
  · rw [eq_of_beq h]; exact ⟨3, by decide⟩
  · rw [eq_of_beq h]; exact ⟨8, by decide⟩
  · rw [eq_of_beq h]; exact ⟨9, by decide⟩
  · rw [eq_of_beq h]; exact ⟨10, by decide⟩
theorem sign_no40 : ∀ k, k < 14 → (signsL.getD k [] == [40]) = false := by decide
theorem lbr_nat (k j : Nat) : lbr k j = (decide (strengthL.getD j 0 < strengthL.getD k 0) || ((strengthL.getD j 0 == strengthL.getD k 0) && rightL.getD k false)) := by
  unfold lbr stAt riAt; simp only [Int.toNat_natCast]
theorem rbr_nat (k j : Nat) : rbr k j = (decide (strengthL.getD j 0 < strengthL.getD k 0) || ((strengthL.getD j 0 == strengthL.getD k 0) && !rightL.getD k false)) := by
  unfold rbr stAt riAt; simp only [Int.toNat_natCast]
theorem par_cnt (ns : List Bs) (hn : namedS ns = 0) : ∀ (n : Nat) (md : Md) (l l' : List Bs) (f : Fm), parF ns n md l = some (f, l') → parP l l' ns f md
  | 0, _, _, _, _, h => by simp only [parF] at h; cases h
  | n + 1, .pre, l, l', f, h => by
    cases l with
    | nil => simp only [parF] at h; cases h
    | cons t r =>
    simp only [parF] at h
    show opR f ∧ cnt l' + cnt (tkS ns f) + (if arAt f.op = 2 then 1 else 0) ≤ cnt (t :: r)
    rw [cnt_cons]
    split at h
    · cases h
    split at h
    · rename_i h40
      rw [if_pos h40]
      split at h
      · rename_i g u k e
        split at h
        · rename_i hu
          cases h
          obtain ⟨h1, h2, _⟩ := par_cnt ns hn n _ _ _ _ e
          rw [cnt_cons, eq_of_beq hu, if_neg (by decide)] at h2
          refine ⟨h1, ?_⟩
          split <;> omega
        · cases h
      · cases h
    split at h
    · cases h
      refine ⟨⟨0, rfl, by decide⟩, ?_⟩
      rw [if_neg (by show ¬ arAt 0 = 2; decide), show cnt (tkS ns (.mk 0 0 [])) = 0 from by rfl]; omega
    split at h
    · cases h
      refine ⟨⟨1, rfl, by decide⟩, ?_⟩
      rw [if_neg (by show ¬ arAt 1 = 2; decide), show cnt (tkS ns (.mk 1 0 [])) = 0 from by rfl]; omega
    split at h
    · rename_i hop
      obtain ⟨k, ek, hk, ha, hsg⟩ := opPre_k hop
      split at h
      · rename_i g m e
        cases h
        obtain ⟨h1, h2⟩ := par_cnt ns hn n _ _ _ _ e
        refine ⟨⟨k, ek, hk⟩, ?_⟩
        have z1 : ((1 : Int) == 0) = false := by decide
        have et : tkS ns (.mk (opS t) 0 [g]) = signsL.getD k [] :: brkT (arAt g.op == 2) (tkS ns g) := by
          simp only [ek, tkS, tkL, tkC, arAt, Int.toNat_natCast, ha, z1, beq_self_eq_true, if_true, Bool.false_eq_true, if_false, signAt]
        rw [et, cnt_cons, sign_no40 k hk, cnt_brk]
        have hne : ¬ arAt (Fm.mk (opS t) 0 [g]).op = 2 := by
          show ¬ arAt (opS t) = 2
          rw [ek]; unfold arAt; rw [Int.toNat_natCast, ha]; decide
        rw [if_neg hne]
        simp only [beq_iff_eq, Bool.false_eq_true, if_false]
        omega
      · cases h
    split at h
    · cases h
    · cases h
      refine ⟨⟨2, rfl, by decide⟩, ?_⟩
      rw [if_neg (by show ¬ arAt 2 = 2; decide), cnt_var hn]; omega
  | n + 1, .bin least, l, l', f, h => by
    simp only [parF] at h
    split at h
    · rename_i g m e
      obtain ⟨h1, h2⟩ := par_cnt ns hn n _ _ _ _ e
      obtain ⟨k1, k2, k3⟩ := par_cnt ns hn n _ _ _ _ h h1
      have := k3 (if arAt g.op = 2 then 1 else 0) (fun hg => .inl (by rw [if_pos hg]; exact Nat.le_refl _))
      exact ⟨k1, by omega, k2⟩
    · cases h
  | n + 1, .loop least g, l, l', f, h => by
    intro hg
    simp only [parF] at h
    split at h
    · rename_i hs
      cases h
      refine ⟨hg, hs, fun c hc => ?_⟩
      have : penB g least ≤ c := by
        unfold penB
        split
        · rename_i hp
          rcases hc hp.1 with h | ⟨h, _⟩ <;> omega
        · omega
      omega
    · rename_i hs
      have hs := Bool.eq_false_iff.2 hs
      split at h
      · rename_i x m e
        obtain ⟨k, ek, hk⟩ : ∃ o : Nat, opS (nowS l) = (o : Int) ∧ o < 14 := opS_nat (fun hh => by
          unfold stops at hs; rw [decide_eq_true hh] at hs; cases hs)
        rw [ek] at hs h e
        have ha : arityL.getD k 0 = 2 := by
          unfold stops at hs
          rw [Int.toNat_natCast] at hs
          simp only [Bool.or_eq_false_iff, Bool.not_eq_false'] at hs
          exact eq_of_beq hs.2.1
        rw [stops_of ha, decide_eq_false_iff_not] at hs
        obtain ⟨⟨kx, hkx, hkx14⟩, h2, h3⟩ := par_cnt ns hn n _ _ _ _ e
        obtain ⟨kg, hkg, hkg14⟩ := hg
        obtain ⟨p1, p2, p3⟩ := par_cnt ns hn n _ _ _ _ h ⟨k, rfl, hk⟩
        refine ⟨p1, p2, fun c hc => ?_⟩
        have e4 := p3 0 (fun _ => .inr ⟨by show least ≤ stAt (k : Int); unfold stAt; rw [Int.toNat_natCast]; omega, h3⟩)
        have z1 : ((2 : Int) == 0) = false := by decide
        have z2 : ((2 : Int) == 1) = false := by decide
        have et : tkS ns (.mk k 0 [g, x]) = brkT (lbr k g.op) (tkS ns g) ++ signsL.getD k [] :: brkT (rbr k x.op) (tkS ns x) := by
          simp only [tkS, tkL, tkC, arAt, Int.toNat_natCast, ha, z1, z2, beq_self_eq_true, if_true, Bool.false_eq_true, if_false, signAt]
        rw [et, cnt_app, cnt_cons, sign_no40 k hk, cnt_brk, cnt_brk, hkg, hkx, lbr_nat, rbr_nat] at e4
        have hl : cnt (l.drop 1) ≤ cnt l := by
          cases l with
          | nil => exact Nat.le_refl _
          | cons t r => rw [List.drop_succ_cons, List.drop_zero, cnt_cons]; omega
        -- the right side
        have hr : (if (decide (strengthL.getD kx 0 < strengthL.getD k 0) || ((strengthL.getD kx 0 == strengthL.getD k 0) && !rightL.getD k false)) = true then 1 else 0) ≤ penB x (nxt (k : Int)) := by
          split
          · rename_i hb
            unfold penB arAt stAt
            rw [hkx, Int.toNat_natCast, nxt_nat]
            simp only [Bool.or_eq_true, decide_eq_true_eq, Bool.and_eq_true, beq_iff_eq, Bool.not_eq_true'] at hb
            have hax : arityL.getD kx 0 = 2 := by
              refine Classical.byContradiction fun hne => ?_
              have := st_un kx hkx14 hne k hk ha
              omega
            refine Nat.le_of_eq (if_pos ⟨hax, ?_⟩).symm
            rcases hb with hb | ⟨hb1, hb2⟩
            · split <;> omega
            · rw [hb2]; simp only [Bool.false_eq_true, if_false]; omega
          · omega
        -- the left side
        have hlf : (if (decide (strengthL.getD kg 0 < strengthL.getD k 0) || ((strengthL.getD kg 0 == strengthL.getD k 0) && rightL.getD k false)) = true then 1 else 0) ≤ c := by
          split
          · rename_i hb
            simp only [Bool.or_eq_true, decide_eq_true_eq, Bool.and_eq_true, beq_iff_eq] at hb
            have hag : arityL.getD kg 0 = 2 := by
              refine Classical.byContradiction fun hne => ?_
              have := st_un kg hkg14 hne k hk ha
              omega
            rcases hc (by rw [hkg]; unfold arAt; rw [Int.toNat_natCast, hag]) with h | ⟨_, h⟩
            · exact h
            · exfalso
              rw [ek, stops_of ha, decide_eq_true_eq, hkg, nxt_nat] at h
              rcases hb with hb | ⟨hb1, hb2⟩
              · split at h <;> omega
              · have hr := st_ri kg hkg14 hag k hk ha hb1
                rw [hr, hb2] at h
                simp only [if_true] at h
                omega
          · omega
        simp only [Bool.false_eq_true, if_false] at e4
        omega
      · cases h
/-- What is read has at least the brackets that are written. -/
theorem read_cnt {ns : List Bs} (hn : namedS ns = 0) {l l' : List Bs} {f : Fm} (h : parT ns (.bin 1) l = some (f, l')) : cnt (tkS ns f) ≤ cnt l := by
  have := (par_cnt ns hn _ _ _ _ _ h).2.1
  omega
/-! ## Brackets in what is written -/
/-- The places of the open brackets, the last one ahead. -/
def stk : Nat → List Nat → Bs → Option (List Nat)
  | _, st, [] => some st
  | i, st, c :: r => if c == 40 then stk (i + 1) (i :: st) r else if c == 41 then (match st with | [] => none | _ :: st' => stk (i + 1) st' r) else stk (i + 1) st r
theorem stk_cons (i : Nat) (st : List Nat) (c : UInt8) (r : Bs) : stk i st (c :: r) = if c == 40 then stk (i + 1) (i :: st) r else if c == 41 then (match st with | [] => none | _ :: st' => stk (i + 1) st' r) else stk (i + 1) st r := by
  cases st <;> rfl
def Bal (s : Bs) : Prop := ∀ i st r, stk i st (s ++ r) = stk (i + s.length) st r
theorem bal_nil : Bal [] := fun i st r => rfl
theorem bal_app {a b : Bs} (ha : Bal a) (hb : Bal b) : Bal (a ++ b) := fun i st r => by
  rw [List.append_assoc, ha, hb, List.length_append, Nat.add_assoc]
theorem bal_plain : ∀ {s : Bs}, (∀ c ∈ s, c ≠ 40 ∧ c ≠ 41) → Bal s
  | [], _ => bal_nil
  | c :: s, h => fun i st r => by
    have h1 := h c (by simp)
    have h2 := bal_plain (s := s) (fun x hx => h x (List.mem_cons_of_mem _ hx)) (i + 1) st r
    rw [List.cons_append, stk_cons, if_neg (by simp [h1.1]), if_neg (by simp [h1.2]), h2, List.length_cons]
    congr 1; omega
theorem bal_brk {b : Bool} {s : Bs} (h : Bal s) : Bal (brk b s) := by
  cases b with
  | false => exact h
  | true =>
    intro i st r
    show stk i st (40 :: (s ++ [41]) ++ r) = _
    rw [List.cons_append, stk_cons, if_pos (by decide), List.append_assoc, h, List.singleton_append, stk_cons, if_neg (by decide), if_pos (by decide)]
    simp only
    congr 1
    simp [brk]; omega
theorem bal_sign : ∀ k, k < 14 → ∀ c ∈ signsL.getD k [], c ≠ 40 ∧ c ≠ 41 := by decide
theorem bal_wr (ns : List Bs) (hn : namedS ns = 0) (f : Fm) : (∀ g ∈ nodesF f, okNode ns.length g = true) → Bal (wrS ns f) := by
  induction f using Fm.ind with
  | h o v l ih =>
    intro hok
    have hsub : ∀ g ∈ l, ∀ x ∈ nodesF g, okNode ns.length x = true := fun g hg x hx => hok x (by rw [nodesF]; exact List.mem_cons_of_mem _ (nodesL_sub hg hx))
    obtain ⟨k, rfl, hk, hal, hv2, hv0⟩ := node_of (hok _ (nodes_self _))
    have hsg := bal_plain (bal_sign k hk)
    have hsp : Bal [32] := bal_plain (by decide)
    rcases arL_nat k hk with ha | ha | ha
    · rw [ha] at hal
      have := args0 hal
      subst this
      cases q : ((k : Int) == 2) with
      | true =>
        have hk2 : k = 2 := by have := eq_of_beq q; omega
        obtain ⟨i, rfl, hi⟩ := hv2 hk2
        have hw := (name_word (named_at hn hi).1).1
        have e3 : ns.getD i [] = ns[i] := by simp [List.getD_eq_getElem?_getD, hi]
        have e : wrS ns (.mk k i []) = ns[i] := by simp only [wrS, wrC, arAt, Int.toNat_natCast, ha, q, e3, beq_self_eq_true, if_true]
        rw [e]
        refine bal_plain fun c hc => ?_
        have hid : idC c = true := by
          generalize ns[i] = s at hw hc
          cases s with
          | nil => cases hc
          | cons d r =>
            simp only [wordS, Bool.and_eq_true] at hw
            rcases List.mem_cons.1 hc with rfl | hc
            · unfold idC idI; rw [hw.1]; rfl
            · exact List.all_eq_true.1 hw.2 c hc
        constructor
        · rintro rfl; exact absurd hid (by decide)
        · rintro rfl; exact absurd hid (by decide)
      | false =>
        have e : wrS ns (.mk k v []) = signsL.getD k [] := by
          simp only [wrS, wrC, arAt, Int.toNat_natCast, ha, q, signAt, beq_self_eq_true, if_true, Bool.false_eq_true, if_false]
        rw [e]; exact hsg
    · rw [ha] at hal
      obtain ⟨g, rfl⟩ := args1 hal
      have e := ih g (by simp) (hsub g (by simp))
      have z1 : ((1 : Int) == 0) = false := by decide
      simp only [wrS, wrL, wrC, arAt, Int.toNat_natCast, ha, z1, beq_self_eq_true, if_true, Bool.false_eq_true, if_false, signAt]
      refine bal_app (bal_app hsg ?_) (bal_brk e)
      split
      · exact bal_nil
      · exact hsp
    · rw [ha] at hal
      obtain ⟨g, h, rfl⟩ := args2 hal
      have e1 := ih g (by simp) (hsub g (by simp))
      have e2 := ih h (by simp) (hsub h (by simp))
      have z1 : ((2 : Int) == 0) = false := by decide
      have z2 : ((2 : Int) == 1) = false := by decide
      simp only [wrS, wrL, wrC, arAt, Int.toNat_natCast, ha, z1, z2, beq_self_eq_true, if_true, Bool.false_eq_true, if_false, signAt]
      exact bal_app (bal_app (bal_brk e1) (bal_app (bal_app hsp hsg) hsp)) (bal_brk e2)
/-- The text with two bytes made blank. -/
def blank2 (s : Bs) (k i : Nat) : Bs := s.take k ++ [32] ++ (s.take i).drop (k + 1) ++ [32] ++ s.drop (i + 1)
theorem split2 {s : Bs} {k i : Nat} (hk : k < i) (hi : i < s.length) : s = s.take k ++ s[k] :: ((s.take i).drop (k + 1) ++ s[i] :: s.drop (i + 1)) := by
  have h1 : s = s.take i ++ s[i] :: s.drop (i + 1) := by rw [← List.drop_eq_getElem_cons hi, List.take_append_drop]
  have hl : k < (s.take i).length := by rw [List.length_take]; omega
  have h2 : s.take i = (s.take i).take k ++ (s.take i)[k] :: (s.take i).drop (k + 1) := by rw [← List.drop_eq_getElem_cons hl, List.take_append_drop]
  have e1 : (s.take i).take k = s.take k := by rw [List.take_take]; congr 1; omega
  have e2 : (s.take i)[k] = s[k] := List.getElem_take
  rw [e1, e2] at h2
  conv => lhs; rw [h1, h2]
  simp only [List.append_assoc, List.cons_append]
/-- With a pair of brackets made blank the text is not read as the formula. -/
theorem blank_ne {ns : List Bs} (hn : namedS ns = 0) {f : Fm} (hok : ∀ g ∈ nodesF f, okNode ns.length g = true) {k i : Nat} (hk : k < i) (hi : i < (wrS ns f).length) (h1 : (wrS ns f)[k] = 40) (h2 : (wrS ns f)[i] = 41) {l' : List Bs} :
    parT ns (.bin 1) (toksS (blank2 (wrS ns f) k i)) ≠ some (f, l') := by
  intro h
  have hc := read_cnt hn h
  rw [← toks_wr ns hn f hok] at hc
  have e := split2 hk hi
  rw [h1, h2] at e
  generalize hA : (wrS ns f).take k = A at e
  generalize hM : ((wrS ns f).take i).drop (k + 1) = M at e
  generalize hB : (wrS ns f).drop (i + 1) = B at e
  have e1 : toksS (wrS ns f) = toksS A ++ [40] :: (toksS M ++ [41] :: toksS B) := by
    rw [e, toks_sep A (c := 40) _ (by decide), toks_one (c := 40) _ (by decide), toks_sep M (c := 41) _ (by decide), toks_one (c := 41) _ (by decide)]
  have e2 : toksS (blank2 (wrS ns f) k i) = toksS A ++ (toksS M ++ toksS B) := by
    unfold blank2
    rw [hA, hM, hB]
    simp only [List.append_assoc, List.cons_append, List.nil_append]
    rw [toks_sep A (c := 32) _ (by decide), toks_sp, toks_sep M (c := 32) _ (by decide), toks_sp]
  rw [e1, e2] at hc
  simp only [cnt_app, cnt_cons] at hc
  rw [if_pos (by decide : (([40] : Bs) == [40]) = true), if_neg (by decide : ¬ (([41] : Bs) == [40]) = true)] at hc
  omega
theorem wr_len (ns : List Bs) (hn : namedS ns = 0) (f : Fm) : (∀ g ∈ nodesF f, okNode ns.length g = true) → (wrS ns f).length ≤ 20 * (nodesF f).length := by
  induction f using Fm.ind with
  | h o v l ih =>
    intro hok
    have hsub : ∀ g ∈ l, ∀ x ∈ nodesF g, okNode ns.length x = true := fun g hg x hx => hok x (by rw [nodesF]; exact List.mem_cons_of_mem _ (nodesL_sub hg hx))
    obtain ⟨k, rfl, hk, hal, hv2, hv0⟩ := node_of (hok _ (nodes_self _))
    have hs5 : ∀ k, k < 14 → (signsL.getD k []).length ≤ 5 := by decide
    have hsk := hs5 k hk
    have hbk : ∀ (b : Bool) (s : Bs), (brk b s).length ≤ s.length + 2 := fun b s => by cases b <;> simp [brk]
    rcases arL_nat k hk with ha | ha | ha
    · rw [ha] at hal
      have := args0 hal
      subst this
      have hn1 : (nodesF (.mk k v [])).length = 1 := rfl
      rw [hn1]
      cases q : ((k : Int) == 2) with
      | true =>
        have hk2 : k = 2 := by have := eq_of_beq q; omega
        obtain ⟨i, rfl, hi⟩ := hv2 hk2
        have hw := (name_word (named_at hn hi).1).2.2.2
        have e3 : ns.getD i [] = ns[i] := by simp [List.getD_eq_getElem?_getD, hi]
        have e : wrS ns (.mk k i []) = ns[i] := by simp only [wrS, wrC, arAt, Int.toNat_natCast, ha, q, e3, beq_self_eq_true, if_true]
        rw [e]; omega
      | false =>
        have e : wrS ns (.mk k v []) = signsL.getD k [] := by
          simp only [wrS, wrC, arAt, Int.toNat_natCast, ha, q, signAt, beq_self_eq_true, if_true, Bool.false_eq_true, if_false]
        rw [e]; omega
    · rw [ha] at hal
      obtain ⟨g, rfl⟩ := args1 hal
      have e := ih g (by simp) (hsub g (by simp))
      have z1 : ((1 : Int) == 0) = false := by decide
      have hnn : (nodesF (.mk k v [g])).length = (nodesF g).length + 1 := by simp [nodesF, nodesL]
      rw [hnn]
      simp only [wrS, wrL, wrC, arAt, Int.toNat_natCast, ha, z1, beq_self_eq_true, if_true, Bool.false_eq_true, if_false, signAt, List.length_append]
      have hb := hbk (arityL.getD g.op.toNat 0 == 2) (wrS ns g)
      have hx : (if ((k : Int) == 3) = true then ([] : Bs) else [32]).length ≤ 1 := by split <;> simp
      omega
    · rw [ha] at hal
      obtain ⟨g, h, rfl⟩ := args2 hal
      have e1 := ih g (by simp) (hsub g (by simp))
      have e2 := ih h (by simp) (hsub h (by simp))
      have z1 : ((2 : Int) == 0) = false := by decide
      have z2 : ((2 : Int) == 1) = false := by decide
      have hnn : (nodesF (.mk k v [g, h])).length = (nodesF g).length + (nodesF h).length + 1 := by simp [nodesF, nodesL]
      rw [hnn]
      simp only [wrS, wrL, wrC, arAt, Int.toNat_natCast, ha, z1, z2, beq_self_eq_true, if_true, Bool.false_eq_true, if_false, signAt, List.length_append, List.length_cons, List.length_nil]
      have h1 := hbk (decide (stAt g.op < stAt k) || ((stAt g.op == stAt k) && riAt k)) (wrS ns g)
      have h2 := hbk (decide (stAt h.op < stAt k) || ((stAt h.op == stAt k) && !riAt k)) (wrS ns h)
      omega
end Go.Sx
