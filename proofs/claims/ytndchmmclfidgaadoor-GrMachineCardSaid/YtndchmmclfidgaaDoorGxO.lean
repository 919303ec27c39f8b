import Derived.Test.YtndchmmclfidgaaDoorGxI
set_option maxRecDepth 100000
set_option linter.unusedSimpArgs false
set_option linter.unusedVariables false
set_option linter.unnecessarySimpa false
namespace Go.Sx
open Go Go.Lg Go.Proofs
section
variable {gl : GL} (har : gl.at' 0 = arityA)
include har
end
theorem holds_plain (l k k' : Int) (f : Fm) : plainR f = true → holdsF l k f = holdsF l k' f := by
  induction f using Fm.ind with
  | h o v ar ih =>
    intro hp
    simp only [plainR, Bool.and_eq_true] at hp
    obtain ⟨h1, h2⟩ := hp
    have ho : o ≠ 8 := fun e => by subst e; simp [tempF] at h2
    have hL : ∀ r : List Fm, (∀ g ∈ r, g ∈ ar) → plainRL r = true → holdsL l k r = holdsL l k' r := by
      intro r
      induction r with
      | nil => intro _ _; rfl
      | cons g r ihr =>
        intro hm hr
        simp only [plainRL, Bool.and_eq_true] at hr
        simp only [holdsL]
        rw [ih g (hm g (List.mem_cons_self ..)) hr.1, ihr (fun x hx => hm x (List.mem_cons_of_mem _ hx)) hr.2]
    simp only [holdsF, hL ar (fun _ h => h) h1, if_neg ho]
def nz (x : BitVec 64) : Bool := !(x == 0#64)
theorem nz_iff (x : BitVec 64) : nz x = true ↔ ∃ i, x.getLsbD i = true := by
  unfold nz
  constructor
  · intro h
    apply Classical.byContradiction
    intro hn
    have : x = 0#64 := BitVec.eq_of_getLsbD_eq fun i _ => by
      simp only [BitVec.getLsbD_zero]
      exact Bool.eq_false_iff.2 fun e => hn ⟨i, e⟩
    rw [this] at h; simp at h
  · rintro ⟨i, hi⟩
    have : x ≠ 0#64 := fun e => by rw [e] at hi; simp at hi
    simpa using this
theorem nz_or (x y : BitVec 64) : nz (x ||| y) = (nz x || nz y) := by
  rw [Bool.eq_iff_iff, Bool.or_eq_true, nz_iff, nz_iff, nz_iff]
  constructor
  · rintro ⟨i, hi⟩
    simp only [BitVec.getLsbD_or, Bool.or_eq_true] at hi
    rcases hi with h | h
    · exact .inl ⟨i, h⟩
    · exact .inr ⟨i, h⟩
  · rintro (⟨i, h⟩ | ⟨i, h⟩)
    · exact ⟨i, by simp [h]⟩
    · exact ⟨i, by simp [h]⟩
theorem bit_get (p i : Nat) (hp : p < 64) : (1#64 <<< p).getLsbD i = decide (i = p) := by
  simp only [BitVec.getLsbD_shiftLeft, BitVec.getLsbD_one]
  by_cases h : i = p
  · subst h; simp [hp]
  · simp only [h, decide_false]
    by_cases h2 : i < p
    · simp [h2]
    · have : i - p ≠ 0 := by omega
      simp [this]
theorem nz_bit (p : Nat) (s : BitVec 64) (hp : p < 64) : nz ((1#64 <<< p) &&& s) = s.getLsbD p := by
  rw [Bool.eq_iff_iff, nz_iff]
  constructor
  · rintro ⟨i, hi⟩
    simp only [BitVec.getLsbD_and, bit_get p i hp, Bool.and_eq_true, decide_eq_true_eq] at hi
    rw [← hi.1]; exact hi.2
  · intro h
    exact ⟨p, by simp only [BitVec.getLsbD_and, bit_get p p hp, h]; simp⟩
theorem or_and (x y s : BitVec 64) : (x ||| y) &&& s = (x &&& s) ||| (y &&& s) := by
  apply BitVec.eq_of_getLsbD_eq
  intro i _
  simp only [BitVec.getLsbD_and, BitVec.getLsbD_or]
  cases x.getLsbD i <;> cases y.getLsbD i <;> cases s.getLsbD i <;> rfl
theorem step_any (ss : Fm) (a l i : Nat) (s : BitVec 64) : ∀ m, (∀ o < m, i + o * 2 ^ a < 64) → nz (stepB ss a l i m &&& s) = anyN (fun o => holdsF l ((i + o * 2 ^ a : Nat) : Int) ss && s.getLsbD (i + o * 2 ^ a)) m
  | 0, _ => by simp [stepB, anyN, nz]
  | m + 1, h => by
    have ih := step_any ss a l i s m fun o ho => h o (by omega)
    simp only [stepB, anyN]
    split
    · rename_i e
      rw [or_and, nz_or, ih, nz_bit _ _ (h m (by omega)), e, Bool.true_and]
    · rename_i e
      rw [ih, Bool.eq_false_iff.2 e, Bool.false_and, Bool.or_false]
section
variable {c : Ct} {a b : Nat} (hc : CtOK c a b)
include hc
theorem ahead_bit (s : BitVec 64) (k : Nat) (hk : k < 2 ^ (a + b)) : (aheadB (tab c a b) s).getLsbD k = beforeB c a b k s := by
  have h64 := n64 hc
  have hg : (tab c a b).good.length = 2 ^ (a + b) := by simp [tab]
  have hr : (tab c a b).good.getD k [] = rowT c a b k := by simp [tab, List.getD, hk]
  unfold aheadB
  rw [hg, setB_get _ _ _ (by omega), decide_eq_true hk, Bool.true_and, hr]
  unfold rowT beforeB
  rw [List.any_map, List.not_any_eq_all_not]
  rw [Bool.eq_iff_iff, List.all_eq_true, List.all_eq_true]
  refine forall_congr' fun d => imp_congr_right fun hd => ?_
  have hd := List.mem_range.1 hd
  have e := step_any c.ss a k d s (2 ^ b) fun o ho => Nat.lt_of_lt_of_le (idx_lt hd ho) h64
  unfold nz at e
  rw [← e]
  simp only [Function.comp, Bool.not_and]
omit hc in
def setF (f : Fm) (n : Nat) : BitVec 64 := setB (fun k => holdsF k k f) n
end
structure PlainC (c : Ct) : Prop where
  ie : plainR c.ie = true
  is : plainR c.is = true
  je : ∀ f ∈ c.je, plainR f = true
  js : ∀ f ∈ c.js, plainR f = true
theorem plain_of {f : Fm} {n : Int} (h : goodF f n 0 = true) : plainR f = true := by
  rw [← good_plain, Bool.and_eq_true] at h; exact h.2
theorem plainC_of {c : Ct} (h : validC c = true) : PlainC c := by
  unfold validC at h
  simp only [Bool.and_eq_true, decide_eq_true_eq, List.all_eq_true] at h
  obtain ⟨⟨⟨⟨⟨⟨⟨⟨⟨⟨h1, h2⟩, h3⟩, h4⟩, h5⟩, g1⟩, g2⟩, g3⟩, g4⟩, g5⟩, g6⟩ := h
  exact ⟨plain_of g1, plain_of g2, fun f hf => plain_of (g5 f hf), fun f hf => plain_of (g6 f hf)⟩
section
variable {c : Ct} {a b : Nat} (hc : CtOK c a b) (hp : PlainC c)
include hc
include hp
end
section
variable {c : Ct} {a b : Nat} (hc : CtOK c a b) (hp : PlainC c)
include hc hp
end
section
variable {gl : GL} (har : gl.at' 0 = arityA)
include har
end
end Go.Sx
