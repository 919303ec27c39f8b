import Derived.Test.YtndchmmclfidgaaDoorGxO
set_option maxRecDepth 100000
set_option linter.unusedSimpArgs false
set_option linter.unusedVariables false
set_option linter.unnecessarySimpa false
namespace Go.Sx
open Go Go.Lg Go.Proofs

/-! ## Plain law of GrMonotone: more assumptions, fewer guarantees, more letters -/
theorem foldl_or_get (i : Nat) : ∀ (l : List (BitVec 64)) (x : BitVec 64), (l.foldl (· ||| ·) x).getLsbD i = true ↔ x.getLsbD i = true ∨ ∃ y ∈ l, y.getLsbD i = true
  | [], x => by simp
  | y :: l, x => by
    rw [List.foldl_cons, foldl_or_get i l (x ||| y), BitVec.getLsbD_or, Bool.or_eq_true]
    simp only [List.mem_cons, exists_eq_or_imp, or_assoc]
theorem foldl_and_get {A : Type} (f : A → BitVec 64) (i : Nat) : ∀ (l : List A) (x : BitVec 64), (l.foldl (fun out j => out &&& f j) x).getLsbD i = true ↔ x.getLsbD i = true ∧ ∀ j ∈ l, (f j).getLsbD i = true
  | [], x => by simp
  | y :: l, x => by
    rw [List.foldl_cons, foldl_and_get f i l (x &&& f y), BitVec.getLsbD_and, Bool.and_eq_true]
    simp only [List.mem_cons, forall_eq_or_imp, and_assoc]
theorem orB_sub {l l' : List (BitVec 64)} (h : ∀ x ∈ l, ∃ y ∈ l', SubB x y) : SubB (orB l) (orB l') := fun i hi => by
  unfold orB at hi ⊢
  rw [foldl_or_get] at hi ⊢
  rcases hi with hi | ⟨x, hx, hi⟩
  · exact .inl hi
  · obtain ⟨y, hy, hs⟩ := h x hx
    exact .inr ⟨y, hy, hs i hi⟩
/-- t' has more assumptions or fewer guarantees. -/
structure MoreT (t t' : Tb) : Prop where
  n : t'.n = t.n
  good : t'.good = t.good
  je : ∀ s, ∀ f ∈ t.je, ∃ f' ∈ t'.je, SubB (xF t s f) (xF t s f')
  js : ∀ z, ∀ j' ∈ t'.js, ∃ j ∈ t.js, SubB (j &&& aheadB t z) (j' &&& aheadB t z)
section
variable {t t' : Tb} (h : MoreT t t')
include h
theorem ahead_same : aheadB t' = aheadB t := by funext s; unfold aheadB; rw [h.good]
theorem xF_same (s f : BitVec 64) : xF t' s f = xF t s f := by
  have e : xStep t' s f = xStep t s f := by funext x; unfold xStep; rw [ahead_same h, h.n]
  unfold xF; rw [e, h.n]
theorem yStep_more (g y : BitVec 64) : SubB (yStep t g y) (yStep t' g y) := by
  unfold yStep
  rw [ahead_same h]
  refine orB_sub fun x hx => ?_
  obtain ⟨f, hf, rfl⟩ := List.mem_map.1 hx
  obtain ⟨f', hf', hs⟩ := h.je (g ||| aheadB t y) f hf
  exact ⟨_, List.mem_map.2 ⟨f', hf', rfl⟩, by rw [xF_same h]; exact hs⟩
theorem zY_more (z j j' : BitVec 64) (hj : SubB (j &&& aheadB t z) (j' &&& aheadB t z)) : SubB (zY t z j) (zY t' z j') := by
  unfold zY
  rw [ahead_same h]
  exact itB_mono (fun x y hs => yStep_mono2 t (.refl _) hs) (fun y i hi => yStep_more h _ y i (yStep_mono2 t hj (.refl _) i hi)) 66 _ _ (.refl _)
theorem zStep_more (z : BitVec 64) : SubB (zStep t z) (zStep t' z) := fun i hi => by
  unfold zStep at hi ⊢
  rw [foldl_and_get] at hi ⊢
  refine ⟨hi.1, fun j' hj' => ?_⟩
  obtain ⟨j, hj, hs⟩ := h.js z j' hj'
  exact zY_more h z j j' hs i (hi.2 j hj)
theorem won_more : SubB (wonB t) (wonB t') := by
  unfold wonB
  rw [h.n]
  exact itB_mono (zStep_mono t) (zStep_more h) 66 _ _ (.refl _)
end
theorem true_bits (n i : Nat) (hi : i < n) (hn : n ≤ 64) : (setB (fun k => holdsF k 0 (.mk 0 0 [])) n).getLsbD i = true := by
  rw [setB_get _ _ _ (by omega)]
  simp [hi, holdsF]
theorem xF_true (t : Tb) (hn : t.n ≤ 64) (s f : BitVec 64) : SubB (xF t s (setB (fun k => holdsF k 0 (.mk 0 0 [])) t.n)) (xF t s f) := by
  unfold xF
  refine itB_mono (xStep_mono t s _) (fun x i hi => ?_) 66 _ _ (.refl _)
  unfold xStep at hi ⊢
  simp only [BitVec.getLsbD_or, BitVec.getLsbD_and, BitVec.getLsbD_not, Bool.or_eq_true, Bool.and_eq_true, Bool.not_eq_true', decide_eq_true_eq] at hi ⊢
  rcases hi with hi | ⟨⟨⟨h1, h2⟩, h3⟩, h4⟩
  · exact .inl hi
  · exfalso
    rw [allB_get t.n i hn h1] at h4
    rw [true_bits t.n i (by simpa using h4) hn] at h2
    cases h2
section
variable {c : Ct} {a b : Nat} (hc : CtOK c a b)
include hc
theorem tab_more (f : Fm) : MoreT (tab c a b) (tab { c with je := c.je ++ [f] } a b) := by
  have h64 := n64 hc
  refine ⟨rfl, rfl, fun s g hg => ?_, fun z j hj => ⟨j, hj, .refl _⟩⟩
  have h1 : (tab { c with je := c.je ++ [f] } a b).je = (c.je ++ [f]).map fun f => setB (fun k => holdsF k 0 f) (2 ^ (a + b)) := by
    show setsL (c.je ++ [f]) _ = _
    unfold setsL orTrue
    rw [if_neg (by simp)]
  have hg : g ∈ (orTrue c.je).map fun f => setB (fun k => holdsF k 0 f) (2 ^ (a + b)) := hg
  unfold orTrue at hg
  rw [h1]
  split at hg
  · rename_i e
    simp only [List.map_cons, List.map_nil, List.mem_singleton] at hg
    subst hg
    exact ⟨_, List.mem_map.2 ⟨f, List.mem_append_right _ (List.mem_singleton.2 rfl), rfl⟩, xF_true (tab c a b) h64 s _⟩
  · obtain ⟨x, hx, rfl⟩ := List.mem_map.1 hg
    exact ⟨_, List.mem_map.2 ⟨x, List.mem_append_left _ hx, rfl⟩, .refl _⟩
theorem tab_less (k : Nat) (hk : k < c.js.length) : MoreT (tab c a b) (tab { c with js := c.js.take k ++ c.js.drop (k + 1) } a b) := by
  have h64 := n64 hc
  refine ⟨rfl, rfl, fun s g hg => ⟨g, hg, .refl _⟩, fun z j hj => ?_⟩
  have h1 : (tab c a b).js = c.js.map fun f => setB (fun k => holdsF k 0 f) (2 ^ (a + b)) := by
    show setsL c.js _ = _
    unfold setsL orTrue
    rw [if_neg (by omega)]
  have hj : j ∈ (orTrue (c.js.take k ++ c.js.drop (k + 1))).map fun f => setB (fun k => holdsF k 0 f) (2 ^ (a + b)) := hj
  unfold orTrue at hj
  rw [h1]
  split at hj
  · simp only [List.map_cons, List.map_nil, List.mem_singleton] at hj
    subst hj
    refine ⟨_, List.mem_map.2 ⟨c.js[k], List.getElem_mem hk, rfl⟩, fun i hi => ?_⟩
    rw [BitVec.getLsbD_and, Bool.and_eq_true] at hi ⊢
    by_cases hl : i < 2 ^ (a + b)
    · exact ⟨true_bits _ i hl h64, hi.2⟩
    · rw [low_ahead z i (by omega)] at hi; exact absurd hi.2 (by simp)
  · obtain ⟨x, hx, rfl⟩ := List.mem_map.1 hj
    refine ⟨_, List.mem_map.2 ⟨x, ?_, rfl⟩, .refl _⟩
    rcases List.mem_append.1 hx with hx | hx
    · exact List.mem_of_mem_take hx
    · exact List.mem_of_mem_drop hx
end
end Go.Sx
