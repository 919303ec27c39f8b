import Derived.Test.YtndchmmclfidgaaDoorTkF
set_option maxRecDepth 100000
set_option linter.unusedSimpArgs false
set_option linter.unusedVariables false
set_option linter.unnecessarySimpa false
namespace Go.Sx
open Go Go.Lg Go.Proofs

/-! ## Tokens of texts put together -/
/-- A byte that ends every word ahead of it. -/
def sepC (c : UInt8) : Bool := !idC c && c != 45 && c != 62
/-- A byte that is a token by itself. -/
def oneC (c : UInt8) : Bool := c != 32 && c != 60 && c != 45 && !lowI (c.toNat : Int)
/-- Words: a small letter, then small letters and digits. -/
def wordS (s : Bs) : Bool := match s with | [] => false | c :: r => lowI (c.toNat : Int) && r.all idC
/-! ## Names -/
theorem alnum_id : ∀ n : Nat, n < 256 → memN alnumC n = idI (n : Int) := by decide
theorem alnum_eq (c : UInt8) : alnum c = idC c := alnum_id _ c.toNat_lt
theorem dropWhile_nil {q : UInt8 → Bool} : ∀ {s : Bs}, s.dropWhile q = [] → ∀ c ∈ s, q c = true
  | [], _, c, hc => by cases hc
  | d :: s, h, c, hc => by
    rw [List.dropWhile_cons] at h
    split at h
    · rename_i hd
      rcases List.mem_cons.1 hc with rfl | hc
      · exact hd
      · exact dropWhile_nil h c hc
    · cases h
theorem trimS_nil {s : Bs} (h : trimS s = []) : ∀ c ∈ s, idC c = true := by
  intro c hc
  have h1 := dropWhile_nil h
  by_cases hn : rdrop alnum s = []
  · unfold rdrop at hn
    have := dropWhile_nil (List.reverse_eq_nil_iff.1 hn) c (List.mem_reverse.2 hc)
    rw [← alnum_eq]; exact this
  · exfalso
    unfold rdrop at hn h1
    have hn' : s.reverse.dropWhile alnum ≠ [] := fun e => hn (by rw [e]; rfl)
    have hh := List.head_dropWhile_not alnum hn'
    have := h1 ((s.reverse.dropWhile alnum).head hn') (List.mem_reverse.2 (List.head_mem hn'))
    rw [this] at hh; cases hh
theorem name_word {s : Bs} (h : nameS s = true) : wordS s = true ∧ (s == trueT) = false ∧ (s == falseT) = false ∧ s.length ≤ 12 := by
  unfold nameS at h
  split at h
  · cases h
  · rename_i hn
    simp only [Bool.or_eq_true, not_or, decide_eq_true_eq, Bool.not_eq_true] at hn
    obtain ⟨⟨⟨⟨⟨h0, h1⟩, h2⟩, h3⟩, h4⟩, h5⟩ := hn
    refine ⟨?_, h2, h3, by omega⟩
    have hid := trimS_nil (eq_of_beq h)
    cases s with
    | nil => cases h0
    | cons c r =>
      have e0 : byI (c :: r) 0 = (c.toNat : Int) := rfl
      rw [e0] at h4 h5
      unfold wordS lowI
      simp only [Bool.and_eq_true, decide_eq_true_eq]
      exact ⟨⟨by omega, by omega⟩, List.all_eq_true.2 fun x hx => hid x (List.mem_cons_of_mem _ hx)⟩
/-- What named says of the names. -/
theorem named_at {ns : List Bs} (h : namedS ns = 0) {i : Nat} (hi : i < ns.length) : nameS ns[i] = true ∧ ∀ j, (hj : j < i) → (ns[i] == ns[j]) = false := by
  unfold namedS at h
  split at h
  · exact absurd h (by decide)
  split at h
  · exact absurd h (by decide)
  · rename_i hh
    have hb : badN ns i = false := by
      cases hb : badN ns i with
      | false => rfl
      | true => exact absurd (List.any_eq_true.2 ⟨i, List.mem_range.2 hi, hb⟩) hh
    unfold badN at hb
    have e3 : ns.getD i [] = ns[i] := by simp [List.getD_eq_getElem?_getD, hi]
    rw [e3, Bool.or_eq_false_iff] at hb
    refine ⟨by simpa using hb.1, fun j hj => ?_⟩
    have h2 := hb.2
    rw [List.any_eq_false] at h2
    have hm : ns[j] ∈ ns.take i := by
      rw [List.mem_take_iff_getElem]
      exact ⟨j, by omega, rfl⟩
    have := h2 _ hm
    simpa using this
theorem named_len {ns : List Bs} (h : namedS ns = 0) : ns.length ≤ 6 := by
  unfold namedS at h
  split at h
  · exact absurd h (by decide)
  · omega
end Go.Sx
