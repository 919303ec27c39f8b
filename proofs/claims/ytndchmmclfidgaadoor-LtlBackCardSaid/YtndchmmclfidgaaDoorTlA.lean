import Derived.Test.YtndchmmclfidgaaDoorTkF
set_option maxRecDepth 100000
set_option linter.unusedSimpArgs false
set_option linter.unusedVariables false
set_option linter.unnecessarySimpa false
namespace Go.Sx
open Go Go.Lg Go.Proofs

/-! ## Tokens of texts put together -/
/-- A byte that ends every word ahead of it. -/
def sepC (c : UInt8) : Bool := !idC c && c != 45 && c != 62
theorem idW_sep (l : Bs) {c : UInt8} (r : Bs) (hc : idC c = false) : idW (l ++ c :: r) = idW l := by
  unfold idW
  induction l with
  | nil => simp [List.takeWhile_cons, hc]
  | cons d l ih =>
    rw [List.cons_append, List.takeWhile_cons, List.takeWhile_cons]
    split
    · simp only [List.length_cons, ih]
    · rfl
theorem pre_sep3 (d : UInt8) (l : Bs) {c : UInt8} (r : Bs) (h1 : (c != 45) = true) (h2 : (c != 62) = true) : pre (d :: l ++ c :: r) iffT = pre (d :: l) iffT := by
  simp only [bne_iff_ne, ne_eq] at h1 h2
  unfold pre iffT
  match l with
  | [] =>
    cases r with
    | nil => simp
    | cons x r => simp [h1]
  | [e] => simp [h2]
  | e :: g :: l => simp
theorem pre_sep2 (d : UInt8) (l : Bs) {c : UInt8} (r : Bs) (h2 : (c != 62) = true) : pre (d :: l ++ c :: r) impT = pre (d :: l) impT := by
  simp only [bne_iff_ne, ne_eq] at h2
  unfold pre impT
  match l with
  | [] => simp [h2]
  | e :: l => simp
theorem tokLen_sep (d : UInt8) (l : Bs) {c : UInt8} (r : Bs) (hc : sepC c = true) : tokLen (d :: l ++ c :: r) = tokLen (d :: l) := by
  unfold sepC at hc
  simp only [Bool.and_eq_true, Bool.not_eq_true'] at hc
  obtain ⟨⟨h0, h1⟩, h2⟩ := hc
  unfold tokLen
  rw [pre_sep3 d l r h1 h2, pre_sep2 d l r h2]
  have e0 : byI (d :: l ++ c :: r) 0 = byI (d :: l) 0 := rfl
  have e1 : (d :: l ++ c :: r).drop 1 = l ++ c :: r := rfl
  rw [e0, e1, idW_sep l r h0]
  rfl
theorem toks_app : ∀ (n : Nat) (l : Bs) {c : UInt8} (r : Bs), l.length ≤ n → sepC c = true → toksS (l ++ c :: r) = toksS l ++ toksS (c :: r)
  | _, [], c, r, _, _ => by rw [toksS_nil]; rfl
  | 0, d :: l, c, r, h, _ => by simp at h
  | n + 1, d :: l, c, r, h, hc => by
    have hk := tokLen_le d l
    have hp := tokLen_pos (d :: l)
    simp only [List.length_cons] at h hk
    cases hs : ((d.toNat : Int) == 32) with
    | true => rw [List.cons_append, toksS_sp hs, toksS_sp hs, toks_app n l r (by omega) hc]
    | false =>
      have e := tokLen_sep d l r hc
      rw [List.cons_append] at e
      rw [List.cons_append, toksS_tok hs e.symm, toksS_tok hs rfl, ← List.cons_append, List.take_append_of_le_length (by simp only [List.length_cons]; omega),
        List.drop_append_of_le_length (by simp only [List.length_cons]; omega), toks_app n _ r (by rw [List.length_drop, List.length_cons]; omega) hc]
      rfl
theorem toks_sep (l : Bs) {c : UInt8} (r : Bs) (hc : sepC c = true) : toksS (l ++ c :: r) = toksS l ++ toksS (c :: r) := toks_app _ l r (Nat.le_refl _) hc
theorem toks_sp (r : Bs) : toksS (32 :: r) = toksS r := toksS_sp (by decide)
/-- A byte that is a token by itself. -/
def oneC (c : UInt8) : Bool := c != 32 && c != 60 && c != 45 && !lowI (c.toNat : Int)
theorem toks_one {c : UInt8} (r : Bs) (hc : oneC c = true) : toksS (c :: r) = [c] :: toksS r := by
  unfold oneC at hc
  simp only [Bool.and_eq_true, bne_iff_ne, ne_eq, Bool.not_eq_true'] at hc
  obtain ⟨⟨⟨h1, h2⟩, h3⟩, h4⟩ := hc
  have hsp : ((c.toNat : Int) == 32) = false := by
    refine Bool.eq_false_iff.2 fun h => h1 ?_
    have := eq_of_beq h
    exact UInt8.toNat_inj.1 (by show c.toNat = 32; omega)
  have hk : 1 = tokLen (c :: r) := by
    have e0 : byI (c :: r) 0 = (c.toNat : Int) := rfl
    unfold tokLen
    rw [if_neg (by unfold pre iffT; simp [h2]), if_neg (by unfold pre impT; simp [h3]), e0, h4]
    rfl
  rw [toksS_tok hsp hk]
  rfl
theorem toks_iff (r : Bs) : toksS (60 :: 45 :: 62 :: r) = iffT :: toksS r := by
  have hk : 3 = tokLen (60 :: 45 :: 62 :: r) := by
    unfold tokLen
    rw [if_pos (by unfold pre iffT; simp)]
  rw [toksS_tok (by decide) hk]
  rfl
theorem toks_imp (r : Bs) : toksS (45 :: 62 :: r) = impT :: toksS r := by
  have hk : 2 = tokLen (45 :: 62 :: r) := by
    unfold tokLen
    rw [if_neg (by unfold pre iffT; simp), if_pos (by unfold pre impT; simp)]
  rw [toksS_tok (by decide) hk]
  rfl
/-- Words: a small letter, then small letters and digits. -/
def wordS (s : Bs) : Bool := match s with | [] => false | c :: r => lowI (c.toNat : Int) && r.all idC
theorem tw_all {q : UInt8 → Bool} : ∀ {r : Bs}, r.all q = true → r.takeWhile q = r
  | [], _ => rfl
  | c :: r, h => by
    rw [List.all_cons, Bool.and_eq_true] at h
    rw [List.takeWhile_cons, if_pos h.1, tw_all h.2]
theorem toks_word {s : Bs} (h : wordS s = true) : toksS s = [s] := by
  cases s with
  | nil => cases h
  | cons c r =>
    unfold wordS at h
    simp only [Bool.and_eq_true] at h
    obtain ⟨h1, h2⟩ := h
    have hlo : 97 ≤ (c.toNat : Int) ∧ (c.toNat : Int) ≤ 122 := by
      unfold lowI at h1
      simp only [Bool.and_eq_true, decide_eq_true_eq] at h1
      exact h1
    have n60 : ¬ c = 60 := by rintro rfl; exact absurd hlo.1 (by decide)
    have n45 : ¬ c = 45 := by rintro rfl; exact absurd hlo.1 (by decide)
    have hsp : ((c.toNat : Int) == 32) = false := by
      refine Bool.eq_false_iff.2 fun h => ?_
      have := eq_of_beq h
      omega
    have hk : (c :: r).length = tokLen (c :: r) := by
      have e0 : byI (c :: r) 0 = (c.toNat : Int) := rfl
      unfold tokLen
      rw [if_neg (by unfold pre iffT; simp [n60]), if_neg (by unfold pre impT; simp [n45]), e0, h1, if_pos rfl]
      unfold idW
      rw [show (c :: r).drop 1 = r from rfl]
      rw [tw_all h2, List.length_cons, Nat.add_comm]
    rw [toksS_tok hsp hk, List.take_length, List.drop_length, toksS_nil]
/-! ## Names -/
theorem alnum_id : ∀ n : Nat, n < 256 → memN alnumC n = idI (n : Int) := by decide
theorem alnum_eq (c : UInt8) : alnum c = idC c := alnum_id _ c.toNat_lt
theorem dropWhile_nil {q : UInt8 → Bool} : ∀ {s : Bs}, s.dropWhile q = [] → ∀ c ∈ s, q c = true
  | [], _, c, hc => by cases hc
  | d :: s, h, c, hc => by
    rw [List.dropWhile_cons] at h
    split at h
    · rename_i hd
      rcases List.mem_cons.1 hc with rfl | hc
      · exact hd
      · exact dropWhile_nil h c hc
    · cases h
theorem trimS_nil {s : Bs} (h : trimS s = []) : ∀ c ∈ s, idC c = true := by
  intro c hc
  have h1 := dropWhile_nil h
  by_cases hn : rdrop alnum s = []
  · unfold rdrop at hn
    have := dropWhile_nil (List.reverse_eq_nil_iff.1 hn) c (List.mem_reverse.2 hc)
    rw [← alnum_eq]; exact this
  · exfalso
    unfold rdrop at hn h1
    have hn' : s.reverse.dropWhile alnum ≠ [] := fun e => hn (by rw [e]; rfl)
    have hh := List.head_dropWhile_not alnum hn'
    have := h1 ((s.reverse.dropWhile alnum).head hn') (List.mem_reverse.2 (List.head_mem hn'))
    rw [this] at hh; cases hh
theorem name_word {s : Bs} (h : nameS s = true) : wordS s = true ∧ (s == trueT) = false ∧ (s == falseT) = false ∧ s.length ≤ 12 := by
  unfold nameS at h
  split at h
  · cases h
  · rename_i hn
    simp only [Bool.or_eq_true, not_or, decide_eq_true_eq, Bool.not_eq_true] at hn
    obtain ⟨⟨⟨⟨⟨h0, h1⟩, h2⟩, h3⟩, h4⟩, h5⟩ := hn
    refine ⟨?_, h2, h3, by omega⟩
    have hid := trimS_nil (eq_of_beq h)
    cases s with
    | nil => cases h0
    | cons c r =>
      have e0 : byI (c :: r) 0 = (c.toNat : Int) := rfl
      rw [e0] at h4 h5
      unfold wordS lowI
      simp only [Bool.and_eq_true, decide_eq_true_eq]
      exact ⟨⟨by omega, by omega⟩, List.all_eq_true.2 fun x hx => hid x (List.mem_cons_of_mem _ hx)⟩
/-- What named says of the names. -/
theorem named_at {ns : List Bs} (h : namedS ns = 0) {i : Nat} (hi : i < ns.length) : nameS ns[i] = true ∧ ∀ j, (hj : j < i) → (ns[i] == ns[j]) = false := by
  unfold namedS at h
  split at h
  · exact absurd h (by decide)
  split at h
  · exact absurd h (by decide)
  · rename_i hh
    have hb : badN ns i = false := by
      cases hb : badN ns i with
      | false => rfl
      | true => exact absurd (List.any_eq_true.2 ⟨i, List.mem_range.2 hi, hb⟩) hh
    unfold badN at hb
    have e3 : ns.getD i [] = ns[i] := by simp [List.getD_eq_getElem?_getD, hi]
    rw [e3, Bool.or_eq_false_iff] at hb
    refine ⟨by simpa using hb.1, fun j hj => ?_⟩
    have h2 := hb.2
    rw [List.any_eq_false] at h2
    have hm : ns[j] ∈ ns.take i := by
      rw [List.mem_take_iff_getElem]
      exact ⟨j, by omega, rfl⟩
    have := h2 _ hm
    simpa using this
theorem named_len {ns : List Bs} (h : namedS ns = 0) : ns.length ≤ 6 := by
  unfold namedS at h
  split at h
  · exact absurd h (by decide)
  · omega
theorem idxT_at {ns : List Bs} (h : namedS ns = 0) {i : Nat} (hi : i < ns.length) : idxT ns[i] ns = (i : Int) := by
  unfold idxT
  have h1 : ∀ x ∈ ns.take i, (ns[i] == x) = false := by
    intro x hx
    obtain ⟨j, hj, rfl⟩ := List.mem_take_iff_getElem.1 hx
    exact (named_at h hi).2 j (by omega)
  rw [idxF_drop _ ns 0 i h1, List.drop_eq_getElem_cons hi]
  simp [idxF]
end Go.Sx
