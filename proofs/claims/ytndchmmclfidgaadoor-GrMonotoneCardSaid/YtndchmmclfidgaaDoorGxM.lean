import Derived.Test.YtndchmmclfidgaaDoorGxL
set_option maxRecDepth 100000
set_option linter.unusedSimpArgs false
set_option linter.unusedVariables false
set_option linter.unnecessarySimpa false
namespace Go.Sx
open Go Go.Lg Go.Proofs

structure PlainC (c : Ct) : Prop where
  ie : plainR c.ie = true
  is : plainR c.is = true
  je : ∀ f ∈ c.je, plainR f = true
  js : ∀ f ∈ c.js, plainR f = true
theorem plain_of {f : Fm} {n : Int} (h : goodF f n 0 = true) : plainR f = true := by
  rw [← good_plain, Bool.and_eq_true] at h; exact h.2
theorem plainC_of {c : Ct} (h : validC c = true) : PlainC c := by
  unfold validC at h
  simp only [Bool.and_eq_true, decide_eq_true_eq, List.all_eq_true] at h
  obtain ⟨⟨⟨⟨⟨⟨⟨⟨⟨⟨h1, h2⟩, h3⟩, h4⟩, h5⟩, g1⟩, g2⟩, g3⟩, g4⟩, g5⟩, g6⟩ := h
  exact ⟨plain_of g1, plain_of g2, fun f hf => plain_of (g5 f hf), fun f hf => plain_of (g6 f hf)⟩
theorem or_plain (l : List Fm) (h : ∀ f ∈ l, plainR f = true) : ∀ f ∈ orTrue l, plainR f = true := by
  intro f hf
  unfold orTrue at hf
  split at hf
  · simp only [List.mem_singleton] at hf; subst hf; simp [plainR, plainRL, tempF]
  · exact h f hf
theorem setF_plain {f : Fm} (n : Nat) (h : plainR f = true) : setF f n = setB (fun k => holdsF k 0 f) n := by
  unfold setF
  congr 1
  funext k
  exact holds_plain _ _ _ f h

theorem fixR_unit {T : Type} {f : BitVec 64 → BitVec 64} {tS : BitVec 64 → T → T} : ∀ (n : Nat) (x : BitVec 64) (t : T) (r : BitVec 64 × T), fixR f tS n x t = some r → fixR f (fun _ (u : Unit) => u) n x () = some (r.1, ())
  | 0, x, t, r, h => by simp [fixR] at h
  | n + 1, x, t, r, h => by
    simp only [fixR] at h ⊢
    split at h
    · rename_i e
      simp only [Option.some.injEq] at h
      rw [if_pos e, ← h]
    · rename_i e
      rw [if_neg e]
      exact fixR_unit n _ _ r h

section
variable {c : Ct} {a b : Nat} (hc : CtOK c a b) (hp : PlainC c)
include hc
theorem RX_eq (z y : BitVec 64) (j f : Fm) : RX c a b z j y f = xF (tab c a b) ((setF j (2 ^ (a + b)) &&& aheadB (tab c a b) z) ||| aheadB (tab c a b) y) (setF f (2 ^ (a + b))) := by
  have e : rXs c a b z j y f = xStep (tab c a b) ((setF j (2 ^ (a + b)) &&& aheadB (tab c a b) z) ||| aheadB (tab c a b) y) (setF f (2 ^ (a + b))) := funext fun x => rXs_eq hc z y x j f
  unfold RX xF
  rw [e]; rfl
include hp
theorem rYs_eq (z : BitVec 64) (j : Fm) : rYs c a b z j = yStep (tab c a b) (setF j (2 ^ (a + b)) &&& aheadB (tab c a b) z) := by
  funext y
  unfold rYs yStep
  have hje : (tab c a b).je = (orTrue c.je).map fun f => setB (fun k => holdsF k 0 f) (2 ^ (a + b)) := rfl
  rw [hje, List.map_map]
  congr 1
  refine List.map_congr_left fun f hf => ?_
  rw [RX_eq hc, setF_plain _ (or_plain _ hp.je f hf)]; rfl
theorem RY_eq (z : BitVec 64) (j : Fm) : RY c a b z j = zY (tab c a b) z (setF j (2 ^ (a + b))) := by
  unfold RY zY
  rw [rYs_eq hc hp]
theorem rZs_eq : rZs c a b = zStep (tab c a b) := by
  funext z
  unfold rZs zStep
  have hjs : (tab c a b).js = (orTrue c.js).map fun f => setB (fun k => holdsF k 0 f) (2 ^ (a + b)) := rfl
  rw [hjs, List.foldl_map]
  have : ∀ (l : List Fm) (w : BitVec 64), (∀ f ∈ l, plainR f = true) → l.foldl (fun out j => out &&& RY c a b z j) w = l.foldl (fun out f => out &&& zY (tab c a b) z (setB (fun k => holdsF k 0 f) (2 ^ (a + b)))) w := by
    intro l
    induction l with
    | nil => intro w _; rfl
    | cons f l ih =>
      intro w hl
      simp only [List.foldl_cons]
      rw [RY_eq hc hp, setF_plain _ (hl f (List.mem_cons_self ..))]
      exact ih _ fun g hg => hl g (List.mem_cons_of_mem _ hg)
  exact this _ _ (or_plain _ hp.js)
theorem RW_eq : RW c a b = wonB (tab c a b) := by
  unfold RW wonB
  rw [rZs_eq hc hp]; rfl
theorem kept_eq (z : BitVec 64) : rkeptB c a b z = keptB c a b z := by
  have h64 := n64 hc
  unfold rkeptB keptB
  rw [Bool.eq_iff_iff, List.all_eq_true, List.all_eq_true]
  refine forall_congr' fun d => imp_congr_right fun hd => ?_
  have hd := List.mem_range.1 hd
  have e := first_any c a d z (2 ^ b) fun o ho => Nat.lt_of_lt_of_le (idx_lt hd ho) h64
  have e2 : anyN (fun l => holdsF ((d + l * 2 ^ a : Nat) : Int) ((d + l * 2 ^ a : Nat) : Int) c.is && z.getLsbD (d + l * 2 ^ a)) (2 ^ b) = anyN (fun o => z.getLsbD (d + o * 2 ^ a) && holdsF ((d + o * 2 ^ a : Nat) : Int) 0 c.is) (2 ^ b) :=
    any_congr _ fun o _ => by rw [Bool.and_comm, holds_plain _ _ 0 c.is hp.is]
  rw [e2, ← e]
  unfold firstR nz
  rw [show holdsF (d : Int) (d : Int) c.ie = holdsF (d : Int) 0 c.ie from holds_plain _ _ _ c.ie hp.ie]
  cases holdsF (d : Int) 0 c.ie <;> simp
theorem stabR_of (hs : Stab (tab c a b)) : StabR c a b := by
  refine ⟨fun z j y f => ?_, fun z j => ?_, ?_⟩
  · have e : rXs c a b z j y f = xStep (tab c a b) ((setF j (2 ^ (a + b)) &&& aheadB (tab c a b) z) ||| aheadB (tab c a b) y) (setF f (2 ^ (a + b))) := funext fun x => rXs_eq hc z y x j f
    rw [e, RX_eq hc]
    exact hs.x _ _ _ _
  · rw [rYs_eq hc hp, RY_eq hc hp]
    obtain ⟨lv, h⟩ := hs.y (setF j (2 ^ (a + b))) z
    exact fixR_unit _ _ _ _ h
  · rw [rZs_eq hc hp, RW_eq hc hp]
    exact hs.z
end
end Go.Sx
