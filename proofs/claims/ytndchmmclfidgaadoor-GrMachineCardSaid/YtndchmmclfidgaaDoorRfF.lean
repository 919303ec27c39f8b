import Derived.Test.YtndchmmclfidgaaDoorRfC
import Derived.Test.YtndchmmclfidgaaDoorLgAw
set_option maxRecDepth 100000
set_option maxHeartbeats 4000000
set_option linter.unusedSimpArgs false
set_option linter.unusedVariables false
set_option linter.unnecessarySimpa false
namespace Go.Sx
open Go Go.Lg Go.Proofs
theorem b188 {gl : GL} : Body (C gl).P 188 Tryd.f188 (codeOf Tryd.f188) := ⟨Tryd.func188, by kernel_rfl, by kernel_rfl⟩
def Mut (p : Pair) (l : List Arc) (x y : Nat) : Prop := Path p l x y ∧ Path p l y x
theorem Mut.symm {p : Pair} {l : List Arc} {x y : Nat} (h : Mut p l x y) : Mut p l y x := ⟨h.2, h.1⟩
theorem Mut.trans {p : Pair} {l : List Arc} {x y z : Nat} (h : Mut p l x y) (k : Mut p l y z) : Mut p l x z := ⟨h.1.trans k.1, k.2.trans h.2⟩
theorem Mut.refl {p : Pair} {l : List Arc} (x : Nat) : Mut p l x x := ⟨.refl x, .refl x⟩
theorem adj_turn {p : Pair} {l : List Arc} {x y : Nat} : y ∈ adjL p (l.map turnA) x ↔ x ∈ adjL p l y := by
  rw [adj_mem, adj_mem]
  constructor
  · rintro ⟨a, h1, h2, h3, h4⟩
    obtain ⟨b, hb, rfl⟩ := List.mem_map.1 h1
    exact ⟨b, hb, h2, h4, h3⟩
  · rintro ⟨a, h1, h2, h3, h4⟩
    exact ⟨turnA a, List.mem_map_of_mem h1, h2, h4, h3⟩
theorem Path.cons {p : Pair} {l : List Arc} {x y z : Nat} (e : y ∈ adjL p l x) (h : Path p l y z) : Path p l x z := Path.trans (.step (.refl x) e) h
theorem path_turn {p : Pair} {l : List Arc} {x y : Nat} : Path p (l.map turnA) x y ↔ Path p l y x := by
  constructor
  · intro h
    induction h with
    | refl => exact .refl _
    | step _ e ih => exact .cons (adj_turn.1 e) ih
  · intro h
    induction h with
    | refl => exact .refl _
    | step _ e ih => exact .cons (adj_turn.2 e) ih
theorem inN_turn {n : Nat} {l : List Arc} (h : InN n l) : InN n (l.map turnA) := fun a ha => by
  obtain ⟨b, hb, rfl⟩ := List.mem_map.1 ha
  exact ⟨(h b hb).2, (h b hb).1⟩
def oneB (i : Nat) (j : Nat) : Bool := if j = i then true else false
theorem rea_one {p : Pair} {l : List Arc} {n i k : Nat} (hi : i < n) : reaB p l (oneB i) n k = true ↔ Path p l i k := by
  rw [reaB_iff]
  constructor
  · rintro ⟨x, _, h2, h3⟩
    unfold oneB at h2
    split at h2
    · rename_i e; subst e; exact h3
    · cases h2
  · exact fun h => ⟨i, hi, by unfold oneB; rw [if_pos rfl], h⟩
abbrev PS := (Nat → Int) × Nat
open Classical in
noncomputable def mutB (p : Pair) (l : List Arc) (n i k : Nat) : Bool := reaB p l (oneB i) n k && reaB p (l.map turnA) (oneB i) n k
theorem mutB_iff {p : Pair} {l : List Arc} {n i k : Nat} (hi : i < n) : mutB p l n i k = true ↔ Mut p l i k := by
  unfold mutB
  rw [Bool.and_eq_true, rea_one hi, rea_one hi, path_turn]; exact Iff.rfl
noncomputable def prtP (p : Pair) (l : List Arc) (n i : Nat) (s : PS) : PS := if 0 ≤ s.1 i then s else (fun k => if mutB p l n i k = true then (s.2 : Int) else s.1 k, s.2 + 1)
noncomputable def prtN (p : Pair) (l : List Arc) (n : Nat) : Nat → PS
  | 0 => (fun _ => -1, 0)
  | i + 1 => prtP p l n i (prtN p l n i)
structure PInv (p : Pair) (l : List Arc) (n i : Nat) (s : PS) : Prop where
  rng : ∀ x, s.1 x = -1 ∨ 0 ≤ s.1 x ∧ s.1 x < (s.2 : Int)
  lo : ∀ x, x < i → 0 ≤ s.1 x
  mu : ∀ x y, 0 ≤ s.1 x → 0 ≤ s.1 y → (s.1 x = s.1 y ↔ Mut p l x y)
  cls : ∀ x y, 0 ≤ s.1 x → Mut p l x y → 0 ≤ s.1 y
  le : s.2 ≤ i
theorem prt_inv {p : Pair} {l : List Arc} {n : Nat} : ∀ i, i ≤ n → PInv p l n i (prtN p l n i)
  | 0, _ => ⟨fun x => .inl rfl, fun x hx => absurd hx (by omega), fun x y hx => absurd hx (by show ¬ (0 : Int) ≤ -1; omega), fun x y hx => absurd hx (by show ¬ (0 : Int) ≤ -1; omega), Nat.le_refl _⟩
  | i + 1, hi => by
    have h := prt_inv (p := p) (l := l) (n := n) i (by omega)
    rw [prtN]
    generalize prtN p l n i = s at h
    unfold prtP
    by_cases h0 : 0 ≤ s.1 i
    · rw [if_pos h0]
      exact ⟨h.rng, fun x hx => by rcases Nat.lt_or_ge x i with h1 | h1; exact h.lo x h1; rw [show x = i by omega]; exact h0, h.mu, h.cls, Nat.le_succ_of_le h.le⟩
    · rw [if_neg h0]
      have hm : ∀ k, mutB p l n i k = true ↔ Mut p l i k := fun k => mutB_iff (by omega)
      have hnew : ∀ k, Mut p l i k → ¬ 0 ≤ s.1 k := fun k hk h2 => h0 (h.cls k i h2 hk.symm)
      refine ⟨fun x => ?_, fun x hx => ?_, fun x y hx hy => ?_, fun x y hx hxy => ?_, by have := h.le; show s.2 + 1 ≤ i + 1; omega⟩
      · show (if mutB p l n i x = true then (s.2 : Int) else s.1 x) = -1 ∨ 0 ≤ (if mutB p l n i x = true then (s.2 : Int) else s.1 x) ∧ (if mutB p l n i x = true then (s.2 : Int) else s.1 x) < ((s.2 + 1 : Nat) : Int)
        split
        · right; omega
        · rcases h.rng x with h | h
          · exact .inl h
          · right; omega
      · show 0 ≤ (if mutB p l n i x = true then (s.2 : Int) else s.1 x)
        split
        · omega
        · rename_i e
          rcases Nat.lt_or_ge x i with h1 | h1
          · exact h.lo x h1
          · exact absurd ((hm x).2 (by rw [show x = i by omega]; exact Mut.refl i)) e
      · have hx : 0 ≤ (if mutB p l n i x = true then (s.2 : Int) else s.1 x) := hx
        have hy : 0 ≤ (if mutB p l n i y = true then (s.2 : Int) else s.1 y) := hy
        show (if mutB p l n i x = true then (s.2 : Int) else s.1 x) = (if mutB p l n i y = true then (s.2 : Int) else s.1 y) ↔ _
        by_cases ex : mutB p l n i x = true <;> by_cases ey : mutB p l n i y = true
        · rw [if_pos ex, if_pos ey]
          exact ⟨fun _ => ((hm x).1 ex).symm.trans ((hm y).1 ey), fun _ => rfl⟩
        · rw [if_neg ey] at hy
          rw [if_pos ex, if_neg ey]
          constructor
          · intro e
            rcases h.rng y with h | h
            · omega
            · omega
          · exact fun e => absurd ((hm y).2 (((hm x).1 ex).trans e)) ey
        · rw [if_neg ex] at hx
          rw [if_neg ex, if_pos ey]
          constructor
          · intro e
            rcases h.rng x with h | h
            · omega
            · omega
          · exact fun e => absurd ((hm x).2 (((hm y).1 ey).trans e.symm)) ex
        · rw [if_neg ex] at hx
          rw [if_neg ey] at hy
          rw [if_neg ex, if_neg ey]
          exact h.mu x y hx hy
      · have hx : 0 ≤ (if mutB p l n i x = true then (s.2 : Int) else s.1 x) := hx
        show 0 ≤ (if mutB p l n i y = true then (s.2 : Int) else s.1 y)
        by_cases ex : mutB p l n i x = true
        · rw [if_pos ((hm y).2 (((hm x).1 ex).trans hxy))]; omega
        · rw [if_neg ex] at hx
          split
          · omega
          · exact h.cls x y hx hxy
end Go.Sx
namespace Go.Sx
open Go Go.Lg Go.Proofs
def tabI (n : Nat) (f : Nat → Int) : List AV := (List.range n).map fun i => AV.int .i64 (f i)
theorem tabI_len (n : Nat) (p : Nat → Int) : (tabI n p).length = n := by simp [tabI]
theorem tabI_get (n : Nat) (p : Nat → Int) (i : Nat) (h : i < n) : (tabI n p).getD i .undef = .int .i64 (p i) := by
  unfold tabI; rw [List.getD_eq_getElem?_getD, List.getElem?_map, List.getElem?_range h]; rfl
theorem tabI_bel (m i : Nat) (p : Nat → Int) : BelE m (tabI i p) = True := eq_true (belE_map (fun _ => .int _ _) _)
theorem clE_tabI (n : Nat) (p : Nat → Int) : ClE (tabI n p) := clE_map (fun _ => .int _ _) _
theorem tabI_set (n : Nat) (p : Nat → Int) (y : Nat) (b : Int) : (tabI n p).set y (.int .i64 b) = tabI n (fun i => if i = y then b else p i) := by
  unfold tabI
  refine List.ext_getElem? fun i => ?_
  rw [List.getElem?_set, List.getElem?_map, List.getElem?_map, List.length_map, List.length_range]
  by_cases hi : i < n
  · rw [List.getElem?_range hi]
    by_cases e : y = i
    · subst e; rw [if_pos rfl, if_pos hi]; simp
    · rw [if_neg e]; simp [Ne.symm e]
  · rw [List.getElem?_eq_none (by simp; omega)]
    by_cases e : y = i
    · subst e; rw [if_pos rfl, if_neg hi]; rfl
    · rw [if_neg e]; rfl
theorem tabI_zero (n : Nat) : List.replicate n (AV.int .i64 0) = tabI n fun _ => 0 := by
  unfold tabI
  rw [show (fun _ : Nat => AV.int .i64 0) = Function.const Nat (AV.int .i64 0) from rfl, List.map_const, List.length_range]
attribute [go_sem] tabI_len tabI_bel
def grpL (p : Pair) (l : List Arc) (of : Nat → Int) (k : Int) : List Arc := l.filter fun a => of a.fr == of a.to && passA p a && of a.fr == k
theorem frz_add {X : Sto} {o : AObj} {es : List AV} (ht : X.Top) (hb : ∀ i cs, X.get i = some (.box cs) → ∀ c ∈ cs, Bel X.next c) : (X.add o).frz X.next es = X.bump := by
  refine Sto.eta2 (fun i => ?_) rfl
  show (if i = X.next then Option.none else match (X.add o).get i with | some (.box cs) => some (.box (cs.map (frz1 X.next es))) | o => o) = X.get i
  by_cases e : i = X.next
  · rw [if_pos e, e]; exact (ht _ (Nat.le_refl _)).symm
  · rw [if_neg e, Sto.get_add, if_neg e]
    cases h : X.get i with
    | none => rfl
    | some o' =>
      cases o' with
      | box cs =>
        simp only [Option.some.injEq, AObj.box.injEq]
        refine (List.map_congr_left fun c hc => ?_).trans (List.map_id _)
        exact frz1_bel (hb i cs h c hc) (Nat.le_refl _)
      | _ => rfl
def boxP (p : Pair) : AObj := .box [.int .i64 p.an, .int .i64 p.aa, .int .i64 p.bn, .int .i64 p.ba]
def prtS' (p : Pair) (n : Nat) (s : PS) : Sto := ((Sto.none.add (boxP p)).add (.row 1 (tabI n s.1) false)).stk (2 * s.2) 1 (List.replicate s.2 (.list true []))
noncomputable def mixP (p : Pair) (l : List Arc) (n i : Nat) (s : PS) (k : Nat) : PS := (fun x => if x < k ∧ mutB p l n i x = true then (s.2 : Int) else s.1 x, s.2)
theorem cut_set1 {σ : Sto} {i : Nat} {o : AObj} (hi : i < σ.next) (ho : BelO σ.next o) : Cut σ (σ.set i o) (σ.set i o) := by
  refine Cut.by' (Nat.le_refl _) (Nat.le_refl _) (fun j hj => .inr ?_) fun k o' hk h' => ⟨h', ?_⟩
  · rw [Sto.get_set, if_neg (by have : σ.next ≤ j := hj; omega)]
  · rw [Sto.get_set] at h'
    split at h'
    · cases h'; exact .inr ho
    · exact .inl h'
theorem leEs_maps {A : Type} {f g : A → AV} (l : List A) (h : ∀ a, leE (f a) (g a)) : leEs (l.map f) (l.map g) := by
  induction l with
  | nil => exact leEs.refl _
  | cons a l ih => exact ⟨h a, ih⟩
theorem bel_nils (m k : Nat) : BelE m (List.replicate k (AV.list true [])) := belE_repl ⟨.list _ _ (fun x hx => by cases hx), trivial⟩
theorem grp_snoc {p : Pair} {l : List Arc} {a : Arc} {of : Nat → Int} {k : Int} : grpL p (l ++ [a]) of k = if (of a.fr == of a.to && passA p a) = true ∧ of a.fr = k then grpL p l of k ++ [a] else grpL p l of k := by
  unfold grpL
  rw [List.filter_append]
  by_cases h1 : (of a.fr == of a.to && passA p a) = true
  · by_cases h2 : of a.fr = k
    · have e : (of a.fr == of a.to && passA p a && of a.fr == k) = true := by rw [h1, Bool.true_and, beq_iff_eq]; exact h2
      rw [if_pos ⟨h1, h2⟩]
      exact congrArg _ ((List.filter_cons_of_pos (p := fun a : Arc => of a.fr == of a.to && passA p a && of a.fr == k) e).trans rfl)
    · rw [if_neg (fun h => h2 h.2)]; simp [h2]
  · rw [if_neg (fun h => h1 h.1)]; simp only [Bool.not_eq_true] at h1; simp [h1]
theorem bel_owns4 {B n m : Nat} (h : B + n ≤ m) (A : Nat → List Arc) : ∀ x ∈ ownsL B n fun j => (A j).map encArc, ∀ c ∈ x.cells, Bel m c := by
  intro x hx c hc
  obtain ⟨j, hj, rfl⟩ := List.mem_map.1 hx
  have hj := List.mem_range.1 hj
  simp only [AV.cells, List.mem_singleton] at hc
  subst hc
  refine .own _ _ (by omega) fun y hy d hd => ?_
  obtain ⟨z, _, rfl⟩ := List.mem_map.1 hy
  simp only [encArc, AV.cells, List.mem_cons, List.not_mem_nil, or_false] at hd
  rcases hd with rfl | rfl | rfl | rfl <;> exact .int _ _
def grpB (p : Pair) (n : Nat) (of : Nat → Int) (N : Nat) (R : List AV) : Sto := ⟨fun i => if i = N then some (.row 1 R false) else ((Sto.none.add (boxP p)).add (.row 1 (tabI n of) false)).get i, N + 1⟩
def grpS (p : Pair) (n : Nat) (of : Nat → Int) (N m : Nat) (l : List Arc) : Sto := (grpB p n of N (ownsL (N + 1) m fun j => (grpL p l of (j : Int)).map encArc)).toks 4 m fun j => (grpL p l of (j : Int)).length
section
variable {p : Pair} {n : Nat} {of : Nat → Int} {N m : Nat} {l : List Arc}
theorem grpS_next : (grpS p n of N m l).next = N + 1 + m := rfl
theorem grpS_0 (h : 1 < N) : (grpS p n of N m l).get 0 = some (.box [.int .i64 p.an, .int .i64 p.aa, .int .i64 p.bn, .int .i64 p.ba]) := by
  unfold grpS; rw [toks_lo (show 0 < N + 1 by omega)]
  show (if 0 = N then _ else _) = _
  rw [if_neg (by omega)]; rfl
theorem grpS_1 (h : 1 < N) : (grpS p n of N m l).get 1 = some (.row 1 (tabI n of) false) := by
  unfold grpS; rw [toks_lo (show 1 < N + 1 by omega)]
  show (if 1 = N then _ else _) = _
  rw [if_neg (by omega)]; rfl
theorem grpS_N : (grpS p n of N m l).get N = some (.row 1 (ownsL (N + 1) m fun j => (grpL p l of (j : Int)).map encArc) false) := by
  unfold grpS; rw [toks_lo (show N < N + 1 by omega)]; exact if_pos rfl
theorem grpS_t {j : Nat} (h : j < m) : (grpS p n of N m l).get (N + 1 + j) = some (.tok 4 (grpL p l of (j : Int)).length) := by unfold grpS; exact toks_at h
theorem grpS_skip {a : Arc} (h : (of a.fr == of a.to && passA p a) = false) : grpS p n of N m (l ++ [a]) = grpS p n of N m l := by
  have e : ∀ k, grpL p (l ++ [a]) of k = grpL p l of k := fun k => by rw [grp_snoc, if_neg (by rw [h]; exact fun h => absurd h.1 Bool.false_ne_true)]
  unfold grpS; simp only [e]
theorem grpS_snoc {a : Arc} {c : Nat} (h : (of a.fr == of a.to && passA p a) = true) (hc : of a.fr = (c : Int)) (hm : c < m) :
    grpS p n of N m (l ++ [a]) = ((grpS p n of N m l).set (N + 1 + c) (.tok 4 ((grpL p l of (c : Int)).length + 1))).set N (.row 1 ((ownsL (N + 1) m fun j => (grpL p l of (j : Int)).map encArc).set c (.own (N + 1 + c) ((grpL p l of (c : Int)).map encArc ++ [encArc a]))) false) := by
  have e : ∀ j : Nat, grpL p (l ++ [a]) of (j : Int) = if j = c then grpL p l of (c : Int) ++ [a] else grpL p l of (j : Int) := fun j => by
    rw [grp_snoc]
    by_cases hj : j = c
    · rw [if_pos ⟨h, by rw [hc, hj]⟩, if_pos hj, hj]
    · rw [if_neg (fun h => hj (by have := h.2; omega)), if_neg hj]
  unfold grpS
  rw [owns_set hm]
  conv => rhs; rw [show N + 1 + c = (grpB p n of N (ownsL (N + 1) m fun j => (grpL p l of (j : Int)).map encArc)).next + c from rfl, toks_set hm, toks_setlo (show N < N + 1 by omega)]
  have e1 : (ownsL (N + 1) m fun j => (grpL p (l ++ [a]) of (j : Int)).map encArc) = ownsL (N + 1) m fun i => if i = c then (grpL p l of (c : Int)).map encArc ++ [encArc a] else (grpL p l of (i : Int)).map encArc := by
    congr 1; funext j; rw [e]; split
    · rw [List.map_append]; rfl
    · rfl
  have e2 : (fun j : Nat => (grpL p (l ++ [a]) of (j : Int)).length) = fun i => if i = c then (grpL p l of (c : Int)).length + 1 else (grpL p l of (i : Int)).length := by
    funext j; rw [e]; split
    · rw [List.length_append]; rfl
    · rfl
  rw [e1, e2]
  refine Sto.eta2 (fun i => ?_) rfl
  show (if N + 1 ≤ i ∧ i < N + 1 + m then _ else if i = N then _ else _) = if N + 1 ≤ i ∧ i < N + 1 + m then _ else if i = N then _ else if i = N then _ else _
  split
  · rfl
  · split <;> rfl
end
section
variable {gl : GL}
theorem parts_ok (p : Pair) (n : Nat) (l : List Arc) (hn0 : 0 < n) (hn : n < 100000) (hl : l.length < 1000000) (hN : InN n l) (of : Nat → Int) (m : Nat) (hP : prtN p l n n = (of, m)) :
    PCall (C gl) 188 [.int .i64 n, .list false (l.map encArc), encPair p] (.tup [.list false (tabI n of), .list false ((List.range m).map fun k : Nat => AV.list false ((grpL p l of (k : Int)).map encArc))]) := by
  refine pcallX (callX_of b188 (by simp [Tryd.ntmps188]) ?_) (by simp only [AllCl, cl_list, cl_int, cl_encPair, and_true, true_and]; exact clE_arc l) (by
    simp only [cl_tup, AllCl, cl_list, and_true]
    refine ⟨clE_tabI _ _, fun x hx c hc => ?_⟩
    obtain ⟨k, _, rfl⟩ := List.mem_map.1 hx
    simp only [AV.cells, List.mem_singleton] at hc
    subst hc
    exact .list _ _ (clE_arc _))
  have hturn : Ctr (C gl) 207 [.list false (l.map encArc)] True (.list false ((l.map turnA).map encArc)) := ⟨fun _ => turned_ok l hl⟩
  have hr1 : ∀ i, Ctr (C gl) 208 [.int .i64 n, .list false (l.map encArc), .list false (tabL n (oneB i)), encPair p] True (.list false (tabL n (reaB p l (oneB i) n))) := fun i => ⟨fun _ => reach_ok p n l _ hn0 hn hl hN⟩
  have hr2 : ∀ i, Ctr (C gl) 208 [.int .i64 n, .list false ((l.map turnA).map encArc), .list false (tabL n (oneB i)), encPair p] True (.list false (tabL n (reaB p (l.map turnA) (oneB i) n))) := fun i => ⟨fun _ => reach_ok p n _ _ hn0 hn (by rw [List.length_map]; exact hl) (inN_turn hN)⟩
  simp only [encPair_eq] at hr1 hr2
  have z1 : ((0 : Int) ≤ (n : Int)) = True := by simp
  have z2 : ((n : Int) ≤ (n : Int)) = True := by simp
  have z3 : ((n : Int) * 8 ≤ 281474976710656) = True := by simp; omega
  have z4 : ((n : Int) ≤ 281474976710656) = True := by simp; omega
  have z5 : ((n : Int) * 1 ≤ 281474976710656) = True := by simp; omega
  have hnb : Nonempty (PLift (n < 100000 ∧ l.length < 1000000)) := ⟨⟨hn, hl⟩⟩
  have hzi := tabI_zero n
  clear hn hl
  refine W.of ?_
  rw [Tryd.ntmps188]
  simp only [toK, codeOf, Tryd.f188, go_sem, seval, reduceCtorEq]
  have H := And.intro @encPair_eq (And.intro @z1 (And.intro @z2 (And.intro @z3 (And.intro @z4 (And.intro @Int.toNat_natCast @hzi)))))
  refine autoA ?_
  repeat' (first | (refine WK.draw (ops := #[_, _, _, _, _, _, _, _, _, _, _, _]) [dq 0 0, dq 0 0, dq 0 0, dq 0 0, dm, dq 0 0, dq 0 0, dq 0 0, dq 1 0, dm, dq 0 0, dq 0 0] mixed (by kernel_rfl) ?_; refine autoA ?_) | (refine WK.draw0 (ops := #[_, _, _, _, _, _, _, _, _, _, _, _, _, _, _, _, _, _, _, _, _, _, _, _, _, _, _, _, _]) mixed (by kernel_rfl) ?_; refine autoA ?_) | (refine WK.draw (ops := #[_, _, _, _, _, _, _, _, _, _, _, _, _, _, _, _, _, _, _]) [dq 0 0, dq 0 0, dq 0 0, dq 0 1, dq 0 1, dq 0 1, dq 0 0, dq 0 0, dq 0 0, dq 0 0, dq 0 0, dq 0 0, dq 0 0, dq 0 0, dq 0 0, dq 0 0, dm, dq 0 0, dm] mixed (by kernel_rfl) ?_; refine autoA ?_))
  try exact trivial
  obtain ⟨⟨hn, hl⟩⟩ := hnb
  refine rangeA (n) [0, 1, 5, 6, 7] [] (fun i => []) (fun i => ((Sto.none.add (.box [.int .i64 p.an, .int .i64 p.aa, .int .i64 p.bn, .int .i64 p.ba])).add (.row 1 (tabI n fun j => if j < i then -1 else 0) false))) ?_ ?_
  · intro i hi
    have hs := tabI_set n (fun j => if j < i then -1 else 0) i (-1)
    have hs2 : (fun j => if j = i then (-1 : Int) else if j < i then -1 else 0) = fun j => if j < i + 1 then -1 else 0 := funext fun j => by
      by_cases h1 : j = i
      · rw [if_pos h1, if_pos (by omega)]
      · rw [if_neg h1]
        by_cases h2 : j < i
        · rw [if_pos h2, if_pos (by omega)]
        · rw [if_neg h2, if_neg (by omega)]
    rw [hs2] at hs
    clear hn hl
    have H := And.intro @hi (And.intro @hs @Int.toNat_natCast)
    refine autoA ?_
    repeat' (first | (refine WK.draw (ops := #[_, _, _, _, _, _, _, _, _, _, _, _]) [dq 0 0, dq 0 0, dq 0 0, dq 0 0, dm, dq 0 0, dq 0 0, dq 0 0, dq 1 0, dm, dq 0 0, dq 0 0] mixed (by kernel_rfl) ?_; refine autoA ?_) | (refine WK.draw0 (ops := #[_, _, _, _, _, _, _, _, _, _, _, _, _, _, _, _, _, _, _, _, _, _, _, _, _, _, _, _, _]) mixed (by kernel_rfl) ?_; refine autoA ?_) | (refine WK.draw (ops := #[_, _, _, _, _, _, _, _, _, _, _, _, _, _, _, _, _, _, _]) [dq 0 0, dq 0 0, dq 0 0, dq 0 1, dq 0 1, dq 0 1, dq 0 0, dq 0 0, dq 0 0, dq 0 0, dq 0 0, dq 0 0, dq 0 0, dq 0 0, dq 0 0, dq 0 0, dm, dq 0 0, dm] mixed (by kernel_rfl) ?_; refine autoA ?_))
    try exact trivial
    try exact cutA
  · have hs0 : (tabI n fun j => if j < n then (-1 : Int) else 0) = tabI n (prtN p l n 0).1 := List.map_congr_left fun j hj => by
      show AV.int .i64 (if j < n then -1 else 0) = AV.int .i64 (-1)
      rw [if_pos (List.mem_range.1 hj)]
    rw [hs0]
    have hnb : Nonempty (PLift (n < 100000 ∧ l.length < 1000000)) := ⟨⟨hn, hl⟩⟩
    clear hn hl
    have H := trivial
    refine autoA ?_
    repeat' (first | (refine WK.draw (ops := #[_, _, _, _, _, _, _, _, _, _, _, _]) [dq 0 0, dq 0 0, dq 0 0, dq 0 0, dm, dq 0 0, dq 0 0, dq 0 0, dq 1 0, dm, dq 0 0, dq 0 0] mixed (by kernel_rfl) ?_; refine autoA ?_) | (refine WK.draw0 (ops := #[_, _, _, _, _, _, _, _, _, _, _, _, _, _, _, _, _, _, _, _, _, _, _, _, _, _, _, _, _]) mixed (by kernel_rfl) ?_; refine autoA ?_) | (refine WK.draw (ops := #[_, _, _, _, _, _, _, _, _, _, _, _, _, _, _, _, _, _, _]) [dq 0 0, dq 0 0, dq 0 0, dq 0 1, dq 0 1, dq 0 1, dq 0 0, dq 0 0, dq 0 0, dq 0 0, dq 0 0, dq 0 0, dq 0 0, dq 0 0, dq 0 0, dq 0 0, dm, dq 0 0, dm] mixed (by kernel_rfl) ?_; refine autoA ?_))
    try exact trivial
    obtain ⟨⟨hn, hl⟩⟩ := hnb
    have hbase : ∀ s : PS, ((Sto.none.add (boxP p)).add (.row 1 (tabI n s.1) false)).next = 2 := fun _ => rfl
    have htop : ∀ s : PS, ((Sto.none.add (boxP p)).add (.row 1 (tabI n s.1) false)).Top := fun _ => top_add (top_add top_none)
    have hg0 : ∀ s, (prtS' p n s).get 0 = some (.box [.int .i64 p.an, .int .i64 p.aa, .int .i64 p.bn, .int .i64 p.ba]) := fun s => by unfold prtS'; rw [stk_get (by rw [hbase]; decide)]; rfl
    have hg1 : ∀ s, (prtS' p n s).get 1 = some (.row 1 (tabI n s.1) false) := fun s => by unfold prtS'; rw [stk_get (by rw [hbase]; decide)]; rfl
    have hgn : ∀ s, (prtS' p n s).next = 2 + 2 * s.2 := fun s => by unfold prtS'; rw [stk_next, hbase]
    have hgt : ∀ s, (prtS' p n s).Top := fun s => stk_top (htop s)
    have hset : ∀ s f, (prtS' p n s).set 1 (.row 1 (tabI n f) false) = prtS' p n (f, s.2) := fun s f => by
      unfold prtS'
      rw [stk_set (by rw [hbase]; decide)]
      congr 1
      refine Sto.eta2 (fun i => ?_) rfl
      show (if i = 1 then _ else if i = 1 then _ else _) = if i = 1 then _ else _
      split <;> rfl
    have hbelX : ∀ s i cs, (prtS' p n s).get i = some (.box cs) → ∀ c ∈ cs, Bel (prtS' p n s).next c := fun s i cs h c hc => by
      have hi : i = 0 ∨ i = 1 ∨ 2 ≤ i := by omega
      rcases hi with rfl | rfl | hi
      · rw [hg0] at h; cases h
        simp only [List.mem_cons, List.not_mem_nil, or_false] at hc
        rcases hc with rfl | rfl | rfl | rfl <;> exact .int _ _
      · rw [hg1] at h; cases h
      · exfalso
        unfold prtS' at h
        cases hm : 2 * s.2 with
        | zero => rw [hm, stk_0, htop s i (by rw [hbase]; exact hi)] at h; cases h
        | succ c =>
          rw [hm, stk_s] at h
          have h : (if i = 2 + c then some (AObj.row 1 (List.replicate s.2 (.list true [])) false) else ((Sto.none.add (boxP p)).add (.row 1 (tabI n s.1) false)).get i) = some (.box cs) := h
          split at h
          · cases h
          · rw [htop s i (by rw [hbase]; exact hi)] at h; cases h
    have hS0 : (Sto.none.add (.box [.int .i64 p.an, .int .i64 p.aa, .int .i64 p.bn, .int .i64 p.ba])).add (.row 1 (tabI n (prtN p l n 0).1) false) = prtS' p n (prtN p l n 0) := rfl
    rw [hS0]
    have hq0 : quA 2 (2 * (prtN p l n 0).2) 0 [] (prtN p l n 0).2 = .list true [] := rfl
    refine WK.rangeX (n) [0, 1, 5, 6, 9] [7] (fun i => [quA 2 (2 * (prtN p l n i).2) 0 [] (prtN p l n i).2]) (fun i => (prtS' p n (prtN p l n i))) (by omega) (by decide) (by simp only [go_sem, seval, reduceCtorEq, hq0]) (by simp only [go_sem, seval, reduceCtorEq, hq0]) (by simp only [go_sem, seval, reduceCtorEq, hq0, List.take_zero]) (by first | rfl | (simp only [go_sem, seval, reduceCtorEq, hq0]; done) | (refine Sto.ext' (by simp only [go_sem, seval, reduceCtorEq, hq0]) (fun i => ?_); simp only [go_sem, seval, reduceCtorEq, hq0]; repeat' split; all_goals (first | rfl | omega | simp_all))) ?_ ?_
    · intro i hi
      have hinv := prt_inv (p := p) (l := l) i (Nat.le_of_lt hi)
      have hsuc : prtN p l n (i + 1) = prtP p l n i (prtN p l n i) := rfl
      have hm := hinv.le
      generalize hs : prtN p l n i = s at *
      have g0 := hg0 s
      have g1 := hg1 s
      have gn := hgn s
      have lt0 : 0 < (prtS' p n s).next := by omega
      have lt1 : 1 < (prtS' p n s).next := by omega
      have mg := tabI_get n s.1 i hi
      have hnb : Nonempty (PLift (n < 100000 ∧ l.length < 1000000 ∧ s.2 ≤ i)) := ⟨⟨hn, hl, hm⟩⟩
      by_cases h0 : 0 ≤ s.1 i
      · have q : decide (s.1 i ≥ 0) = true := decide_eq_true h0
        have hfin : prtN p l n (i + 1) = s := by rw [hsuc]; unfold prtP; rw [if_pos h0]
        clear hn hl hm gn
        have H := And.intro @hi (And.intro @g1 (And.intro @mg (And.intro @q (And.intro @hfin @Int.toNat_natCast))))
        refine autoA ?_
        repeat' (first | (refine WK.draw (ops := #[_, _, _, _, _, _, _, _, _, _, _, _]) [dq 0 0, dq 0 0, dq 0 0, dq 0 0, dm, dq 0 0, dq 0 0, dq 0 0, dq 1 0, dm, dq 0 0, dq 0 0] mixed (by kernel_rfl) ?_; refine autoA ?_) | (refine WK.draw0 (ops := #[_, _, _, _, _, _, _, _, _, _, _, _, _, _, _, _, _, _, _, _, _, _, _, _, _, _, _, _, _]) mixed (by kernel_rfl) ?_; refine autoA ?_) | (refine WK.draw (ops := #[_, _, _, _, _, _, _, _, _, _, _, _, _, _, _, _, _, _, _]) [dq 0 0, dq 0 0, dq 0 0, dq 0 1, dq 0 1, dq 0 1, dq 0 0, dq 0 0, dq 0 0, dq 0 0, dq 0 0, dq 0 0, dq 0 0, dq 0 0, dq 0 0, dq 0 0, dm, dq 0 0, dm] mixed (by kernel_rfl) ?_; refine autoA ?_))
        try exact trivial
        rw [hs]
        exact ⟨bel_quN (by rw [hgn]; exact Nat.le_refl _), .refl _⟩
      · have q : decide (s.1 i ≥ 0) = false := decide_eq_false h0
        generalize hX : prtS' p n s = X at *
        have nz_0 : (0 = X.next) = False := by simp; omega
        have nx_0 : ∀ j, (0 = X.next + j) = False := fun j => by simp; omega
        have nz_1 : (1 = X.next) = False := by simp; omega
        have nx_1 : ∀ j, (1 = X.next + j) = False := fun j => by simp; omega
        have hone : (List.replicate n (AV.bool false)).set i (.bool true) = tabL n (oneB i) := by
          have e : List.replicate n (AV.bool false) = tabL n fun _ => false := by
            unfold tabL
            rw [show (fun _ : Nat => AV.bool false) = Function.const Nat (AV.bool false) from rfl, List.map_const, List.length_range]
          rw [e, tab_set]; rfl
        clear hn hl hm gn
        have hlt := tab_len n (oneB i)
        have hrep : (List.replicate n (AV.bool false)).length = n := List.length_replicate
        have htk : (tabL n (oneB i)).take n = tabL n (oneB i) := List.take_of_length_le (by rw [tab_len]; exact Nat.le_refl _)
        have H := And.intro @hi (And.intro @g0 (And.intro @g1 (And.intro @mg (And.intro @q (And.intro @z1 (And.intro @z2 (And.intro @z4 (And.intro @z5 (And.intro @hone (And.intro @hrep (And.intro @nz_0 (And.intro @nx_0 (And.intro @nz_1 (And.intro @nx_1 @Int.toNat_natCast))))))))))))))
        refine autoA ?_
        refine WK.freeze X.next (by rw [Sto.get_add, if_pos rfl]) ?_
        rw [frz_add (hX ▸ hgt s) (hX ▸ hbelX s)]
        have gnb : X.bump.next = X.next + 1 := rfl
        have gb : ∀ i, X.bump.get i = X.get i := fun i => rfl
        have c1 := hr1 i
        have c2 := hr2 i
        have hfq : Lg.frz X.next (tabL n (oneB i)) (quA 2 (2 * s.2) 0 [] s.2) = quA 2 (2 * s.2) 0 [] s.2 := by
          have hb : frz1 X.next (tabL n (oneB i)) (quA 2 (2 * s.2) 0 [] s.2) = quA 2 (2 * s.2) 0 [] s.2 := frz1_bel (m := X.next) (by rw [← hX]; exact bel_quN (by rw [hgn]; exact Nat.le_refl _)) (Nat.le_refl _)
          revert hb; unfold quA; split <;> exact id
        simp only [Env.frz_upd, hfq]
        have H := And.intro @hi (And.intro @g0 (And.intro @g1 (And.intro @htk (And.intro @gb (And.intro @gnb (And.intro @nz_0 (And.intro @nx_0 (And.intro @nz_1 (And.intro @nx_1 (And.intro @hfq (And.intro @Int.toNat_natCast @Nat.zero_add)))))))))))
        refine autoA ?_
        repeat' (first | (refine WK.draw (ops := #[_, _, _, _, _, _, _, _, _, _, _, _]) [dq 0 0, dq 0 0, dq 0 0, dq 0 0, dm, dq 0 0, dq 0 0, dq 0 0, dq 1 0, dm, dq 0 0, dq 0 0] mixed (by kernel_rfl) ?_; refine autoA ?_) | (refine WK.draw0 (ops := #[_, _, _, _, _, _, _, _, _, _, _, _, _, _, _, _, _, _, _, _, _, _, _, _, _, _, _, _, _]) mixed (by kernel_rfl) ?_; refine autoA ?_) | (refine WK.draw (ops := #[_, _, _, _, _, _, _, _, _, _, _, _, _, _, _, _, _, _, _]) [dq 0 0, dq 0 0, dq 0 0, dq 0 1, dq 0 1, dq 0 1, dq 0 0, dq 0 0, dq 0 0, dq 0 0, dq 0 0, dq 0 0, dq 0 0, dq 0 0, dq 0 0, dq 0 0, dm, dq 0 0, dm] mixed (by kernel_rfl) ?_; refine autoA ?_))
        try exact trivial
        subst hX
        have hmix0 : mixP p l n i s 0 = s := by
          show ((fun x => if x < 0 ∧ mutB p l n i x = true then (s.2 : Int) else s.1 x), s.2) = s
          refine Prod.ext (funext fun x => ?_) rfl
          show (if x < 0 ∧ mutB p l n i x = true then (s.2 : Int) else s.1 x) = s.1 x
          exact if_neg (fun h => absurd h.1 (Nat.not_lt_zero _))
        have hmixT : ∀ k, mutB p l n i k = true → (mixP p l n i s (k + 1)).1 = fun x => if x = k then (s.2 : Int) else (mixP p l n i s k).1 x := fun k h => funext fun x => by
          show (if x < k + 1 ∧ mutB p l n i x = true then (s.2 : Int) else s.1 x) = if x = k then (s.2 : Int) else if x < k ∧ mutB p l n i x = true then (s.2 : Int) else s.1 x
          by_cases e : x = k
          · subst e; rw [if_pos ⟨Nat.lt_succ_self _, h⟩, if_pos rfl]
          · rw [if_neg e]
            have e2 : (x < k + 1) ↔ (x < k) := by omega
            simp only [e2]
        have hmixF : ∀ k, mutB p l n i k = false → mixP p l n i s (k + 1) = mixP p l n i s k := fun k h => Prod.ext (funext fun x => by
          show (if x < k + 1 ∧ mutB p l n i x = true then (s.2 : Int) else s.1 x) = if x < k ∧ mutB p l n i x = true then (s.2 : Int) else s.1 x
          by_cases e : x = k
          · subst e; rw [if_neg (by rw [h]; exact fun h => Bool.noConfusion h.2), if_neg (by rw [h]; exact fun h => Bool.noConfusion h.2)]
          · have e2 : (x < k + 1) ↔ (x < k) := by omega
            simp only [e2]) rfl
        have hmixn : tabI n (mixP p l n i s n).1 = tabI n (prtN p l n (i + 1)).1 := by
          refine List.map_congr_left fun j hj => congrArg _ ?_
          rw [hsuc]; unfold prtP; rw [if_neg h0]
          show (if j < n ∧ mutB p l n i j = true then (s.2 : Int) else s.1 j) = if mutB p l n i j = true then (s.2 : Int) else s.1 j
          simp [List.mem_range.1 hj]
        have hms : ∀ k, (mixP p l n i s k).2 = s.2 := fun k => rfl
        have hsb : ∀ s f, (prtS' p n s).bump.set 1 (.row 1 (tabI n f) false) = (prtS' p n (f, s.2)).bump := fun s f => (show _ = ((prtS' p n s).set 1 (.row 1 (tabI n f) false)).bump from rfl).trans (by rw [hset])
        have hV : quA 2 (2 * s.2) 0 [] s.2 = .list true [] ∧ s.2 = 0 ∨ ∃ id, quA 2 (2 * s.2) 0 [] s.2 = .row id 0 s.2 := by
          rcases hs2 : s.2 with _ | c
          · exact .inl ⟨rfl, rfl⟩
          · exact .inr ⟨_, by rw [show 2 * (c + 1) = (2 * c + 1) + 1 by omega]; exact quA_s _ _ _ _ _⟩
        generalize hVe : quA 2 (2 * s.2) 0 [] s.2 = V at *
        rcases id hnb with ⟨⟨hn, hl, hm⟩⟩
        refine WK.rangeX (n) [0, 1, 5, 6, 7, 9, 10, 12, 13, 30, 31] [] (fun k => []) (fun k => (prtS' p n (mixP p l n i s k)).bump) (by omega) (by decide) (by simp only [go_sem, seval, reduceCtorEq, hmix0]) (by simp only [go_sem, seval, reduceCtorEq, hmix0]) (by simp only [go_sem, seval, reduceCtorEq, hmix0, List.take_zero]) (by first | rfl | (simp only [go_sem, seval, reduceCtorEq, hmix0]; done) | (refine Sto.ext' (by simp only [go_sem, seval, reduceCtorEq, hmix0]) (fun i => ?_); simp only [go_sem, seval, reduceCtorEq, hmix0]; repeat' split; all_goals (first | rfl | omega | simp_all))) ?_ ?_
        · intro k hk
          clear hn hl hm
          have mg1 := tab_get n (reaB p l (oneB i) n) k hk
          have mg2 := tab_get n (reaB p (l.map turnA) (oneB i) n) k hk
          have l1 := tab_len n (reaB p l (oneB i) n)
          have l2 := tab_len n (reaB p (l.map turnA) (oneB i) n)
          have gg1 : (prtS' p n (mixP p l n i s k)).bump.get 1 = _ := hg1 (mixP p l n i s k)
          have hT := hmixT k
          have hF := hmixF k
          have hst := tabI_set n (mixP p l n i s k).1 k s.2
          have hs1 : (prtS' p n (mixP p l n i s k)).bump.set 1 (.row 1 (tabI n (mixP p l n i s (k + 1)).1) false) = (prtS' p n (mixP p l n i s (k + 1))).bump := hsb _ _
          have hkn : (prtS' p n (mixP p l n i s k)).bump.next = 3 + 2 * s.2 := by rw [bump_next, hgn]; show 2 + 2 * s.2 + 1 = _; omega
          have hkn2 : (prtS' p n (mixP p l n i s (k + 1))).bump.next = 3 + 2 * s.2 := by rw [bump_next, hgn]; show 2 + 2 * s.2 + 1 = _; omega
          cases e1 : reaB p l (oneB i) n k with
          | false =>
            have hfin := hF (by unfold mutB; rw [e1]; rfl)
            rw [e1] at mg1
            have H := And.intro @hmix0 (And.intro @hk (And.intro @mg1 (And.intro @l1 (And.intro @hfin @Int.toNat_natCast))))
            refine autoA ?_
            repeat' (first | (refine WK.draw (ops := #[_, _, _, _, _, _, _, _, _, _, _, _]) [dq 0 0, dq 0 0, dq 0 0, dq 0 0, dm, dq 0 0, dq 0 0, dq 0 0, dq 1 0, dm, dq 0 0, dq 0 0] mixed (by kernel_rfl) ?_; refine autoA ?_) | (refine WK.draw0 (ops := #[_, _, _, _, _, _, _, _, _, _, _, _, _, _, _, _, _, _, _, _, _, _, _, _, _, _, _, _, _]) mixed (by kernel_rfl) ?_; refine autoA ?_) | (refine WK.draw (ops := #[_, _, _, _, _, _, _, _, _, _, _, _, _, _, _, _, _, _, _]) [dq 0 0, dq 0 0, dq 0 0, dq 0 1, dq 0 1, dq 0 1, dq 0 0, dq 0 0, dq 0 0, dq 0 0, dq 0 0, dq 0 0, dq 0 0, dq 0 0, dq 0 0, dq 0 0, dm, dq 0 0, dm] mixed (by kernel_rfl) ?_; refine autoA ?_))
            try exact trivial
          | true =>
          cases e2 : reaB p (l.map turnA) (oneB i) n k with
          | false =>
            have hfin := hF (by unfold mutB; rw [e1, e2]; rfl)
            rw [e1] at mg1
            rw [e2] at mg2
            have H := And.intro @hmix0 (And.intro @hk (And.intro @mg1 (And.intro @mg2 (And.intro @l1 (And.intro @l2 (And.intro @hfin @Int.toNat_natCast))))))
            refine autoA ?_
            repeat' (first | (refine WK.draw (ops := #[_, _, _, _, _, _, _, _, _, _, _, _]) [dq 0 0, dq 0 0, dq 0 0, dq 0 0, dm, dq 0 0, dq 0 0, dq 0 0, dq 1 0, dm, dq 0 0, dq 0 0] mixed (by kernel_rfl) ?_; refine autoA ?_) | (refine WK.draw0 (ops := #[_, _, _, _, _, _, _, _, _, _, _, _, _, _, _, _, _, _, _, _, _, _, _, _, _, _, _, _, _]) mixed (by kernel_rfl) ?_; refine autoA ?_) | (refine WK.draw (ops := #[_, _, _, _, _, _, _, _, _, _, _, _, _, _, _, _, _, _, _]) [dq 0 0, dq 0 0, dq 0 0, dq 0 1, dq 0 1, dq 0 1, dq 0 0, dq 0 0, dq 0 0, dq 0 0, dq 0 0, dq 0 0, dq 0 0, dq 0 0, dq 0 0, dq 0 0, dm, dq 0 0, dm] mixed (by kernel_rfl) ?_; refine autoA ?_))
            try exact trivial
          | true =>
            have hfin := hT (by unfold mutB; rw [e1, e2]; rfl)
            rw [e1] at mg1
            rw [e2] at mg2
            rw [← hfin] at hst
            have hcut : Cut (prtS' p n (mixP p l n i s k)).bump (prtS' p n (mixP p l n i s (k + 1))).bump (prtS' p n (mixP p l n i s (k + 1))).bump := by
              rw [← hs1]
              exact cut_set1 (by rw [hkn]; omega) (of_eq_true (tabI_bel _ _ _))
            rcases hV with ⟨hV, hz⟩ | ⟨id, hV⟩
            · have hst : (tabI n (mixP p l n i s k).1).set k (.int .i64 0) = tabI n (mixP p l n i s (k + 1)).1 := by rw [← hst, hz]; rfl
              subst hV
              have H := And.intro @hmix0 (And.intro @hk (And.intro @mg1 (And.intro @mg2 (And.intro @l1 (And.intro @l2 (And.intro @gg1 (And.intro @hst (And.intro @hs1 @Int.toNat_natCast))))))))
              refine autoA ?_
              repeat' (first | (refine WK.draw (ops := #[_, _, _, _, _, _, _, _, _, _, _, _]) [dq 0 0, dq 0 0, dq 0 0, dq 0 0, dm, dq 0 0, dq 0 0, dq 0 0, dq 1 0, dm, dq 0 0, dq 0 0] mixed (by kernel_rfl) ?_; refine autoA ?_) | (refine WK.draw0 (ops := #[_, _, _, _, _, _, _, _, _, _, _, _, _, _, _, _, _, _, _, _, _, _, _, _, _, _, _, _, _]) mixed (by kernel_rfl) ?_; refine autoA ?_) | (refine WK.draw (ops := #[_, _, _, _, _, _, _, _, _, _, _, _, _, _, _, _, _, _, _]) [dq 0 0, dq 0 0, dq 0 0, dq 0 1, dq 0 1, dq 0 1, dq 0 0, dq 0 0, dq 0 0, dq 0 0, dq 0 0, dq 0 0, dq 0 0, dq 0 0, dq 0 0, dq 0 0, dm, dq 0 0, dm] mixed (by kernel_rfl) ?_; refine autoA ?_))
              try exact trivial
            · subst hV
              have H := And.intro @hmix0 (And.intro @hk (And.intro @mg1 (And.intro @mg2 (And.intro @l1 (And.intro @l2 (And.intro @gg1 (And.intro @hst (And.intro @hs1 @Int.toNat_natCast))))))))
              refine autoA ?_
              repeat' (first | (refine WK.draw (ops := #[_, _, _, _, _, _, _, _, _, _, _, _]) [dq 0 0, dq 0 0, dq 0 0, dq 0 0, dm, dq 0 0, dq 0 0, dq 0 0, dq 1 0, dm, dq 0 0, dq 0 0] mixed (by kernel_rfl) ?_; refine autoA ?_) | (refine WK.draw0 (ops := #[_, _, _, _, _, _, _, _, _, _, _, _, _, _, _, _, _, _, _, _, _, _, _, _, _, _, _, _, _]) mixed (by kernel_rfl) ?_; refine autoA ?_) | (refine WK.draw (ops := #[_, _, _, _, _, _, _, _, _, _, _, _, _, _, _, _, _, _, _]) [dq 0 0, dq 0 0, dq 0 0, dq 0 1, dq 0 1, dq 0 1, dq 0 0, dq 0 0, dq 0 0, dq 0 0, dq 0 0, dq 0 0, dq 0 0, dq 0 0, dq 0 0, dq 0 0, dm, dq 0 0, dm] mixed (by kernel_rfl) ?_; refine autoA ?_))
              try exact trivial
        · rw [← hVe]
          have hpn : (prtN p l n (i + 1)).2 = s.2 + 1 := by rw [hsuc]; unfold prtP; rw [if_neg h0]
          have hb1 : ∀ xs, ((((Sto.none.add (boxP p)).add (.row 1 (tabI n (mixP p l n i s n).1) false)).stk (2 * s.2 + 2) 1 (List.replicate s.2 (.list true []) ++ xs))) = (((Sto.none.add (boxP p)).add (.row 1 (tabI n (prtN p l n (i + 1)).1) false)).stk (2 * s.2 + 2) 1 (List.replicate s.2 (.list true []) ++ xs)) := fun xs => by rw [hmixn]
          have hm2 : s.2 < 100000 := by omega
          have hfinS : ((Sto.none.add (boxP p)).add (.row 1 (tabI n (mixP p l n i s n).1) false)).stk (2 * s.2 + 2) 1 (List.replicate s.2 (.list true []) ++ [.list true []]) = prtS' p n (prtN p l n (i + 1)) := by
            rw [hmixn]
            unfold prtS'
            rw [hpn, List.replicate_succ']; rfl
          have hfinV : quA 2 (2 * s.2 + 2) 0 [] (s.2 + 1) = quA 2 (2 * (prtN p l n (i + 1)).2) 0 [] (prtN p l n (i + 1)).2 := by rw [hpn]; rfl
          have hcut : Cut (prtS' p n s) (prtS' p n (prtN p l n (i + 1))) (prtS' p n (prtN p l n (i + 1))) := by
            unfold prtS'
            refine cut_stk rfl (by rw [hpn]; omega) (htop _) (by rw [stk_next]; exact Nat.le_refl _) (fun i _ => rfl) (fun i o hi h => ?_) (fun m => of_eq_true (eq_true (bel_nils m _)))
            have hi : i < 2 := hi
            have h : (if i = 1 then some (AObj.row 1 (tabI n (prtN p l n _).1) false) else (Sto.none.add (boxP p)).get i) = some o := h
            show (if i = 1 then some (AObj.row 1 (tabI n s.1) false) else (Sto.none.add (boxP p)).get i) = some o ∨ _
            split at h
            · cases h; exact .inr (of_eq_true (tabI_bel _ _ _))
            · rename_i e; rw [if_neg e]; exact .inl h
          have hbel : Bel (prtS' p n (prtN p l n (i + 1))).next (quA 2 (2 * (prtN p l n (i + 1)).2) 0 [] (prtN p l n (i + 1)).2) := bel_quN (by rw [hgn]; exact Nat.le_refl _)
          have hm3 : Nonempty (PLift (s.2 < 100000)) := ⟨⟨hm2⟩⟩
          clear hn hl hm hm2
          have H := @hmix0
          refine autoA ?_
          repeat' (first | (refine WK.draw (ops := #[_, _, _, _, _, _, _, _, _, _, _, _]) [dq 0 0, dq 0 0, dq 0 0, dq 0 0, dm, dq 0 0, dq 0 0, dq 0 0, dq 1 0, dm, dq 0 0, dq 0 0] mixed (by kernel_rfl) ?_; refine autoA ?_) | (refine WK.draw0 (ops := #[_, _, _, _, _, _, _, _, _, _, _, _, _, _, _, _, _, _, _, _, _, _, _, _, _, _, _, _, _]) mixed (by kernel_rfl) ?_; refine autoA ?_) | (refine WK.draw (ops := #[_, _, _, _, _, _, _, _, _, _, _, _, _, _, _, _, _, _, _]) [dq 0 0, dq 0 0, dq 0 0, dq 0 1, dq 0 1, dq 0 1, dq 0 0, dq 0 0, dq 0 0, dq 0 0, dq 0 0, dq 0 0, dq 0 0, dq 0 0, dq 0 0, dq 0 0, dm, dq 0 0, dm] mixed (by kernel_rfl) ?_; refine autoA ?_))
          try exact trivial
          obtain ⟨⟨hm2⟩⟩ := hm3
          refine appK_qb (f := true) (σ := (Sto.none.add (boxP p)).add (.row 1 (tabI n (mixP p l n i s n).1) false)) (c := 2 * s.2) (es := 1) (xs := List.replicate s.2 (.list true [])) (ys := [.list true []]) (by first | (simp only [go_sem, seval, reduceCtorEq]; done) | (simp only [go_sem, seval, reduceCtorEq]; rfl)) (by kernel_rfl) (by simp only [go_sem, seval, reduceCtorEq, List.length_replicate]) (htop _) (fun h => by rw [show s.2 = 0 by omega]; rfl) (fun x hx => by rw [List.eq_of_mem_replicate hx]; exact ⟨rfl, rfl⟩) (by first | (simp only [go_sem, seval, reduceCtorEq]; done) | (simp only [go_sem, seval, reduceCtorEq]; rfl)) (by first | (simp only [go_sem, seval, reduceCtorEq]; done) | (simp only [go_sem, seval, reduceCtorEq]; rfl)) (by simp only [go_sem, seval, reduceCtorEq]) (by simp) (by kernel_rfl) (by simp only [go_sem, seval, reduceCtorEq, List.length_cons, List.length_nil, List.length_replicate]; omega) (by simp only [go_sem, seval, reduceCtorEq, List.length_cons, List.length_nil, List.length_replicate]; omega) ?_
          rw [hfinS, List.length_replicate, show s.2 + [AV.list true []].length = s.2 + 1 from rfl, show quA ((Sto.none.add (boxP p)).add (.row 1 (tabI n (mixP p l n i s n).1) false)).next (2 * s.2 + 2) 0 [] (s.2 + 1) = quA 2 (2 * s.2 + 2) 0 [] (s.2 + 1) from rfl, hfinV]
          clear hm2
          have H := @hmix0
          refine autoA ?_
          repeat' (first | (refine WK.draw (ops := #[_, _, _, _, _, _, _, _, _, _, _, _]) [dq 0 0, dq 0 0, dq 0 0, dq 0 0, dm, dq 0 0, dq 0 0, dq 0 0, dq 1 0, dm, dq 0 0, dq 0 0] mixed (by kernel_rfl) ?_; refine autoA ?_) | (refine WK.draw0 (ops := #[_, _, _, _, _, _, _, _, _, _, _, _, _, _, _, _, _, _, _, _, _, _, _, _, _, _, _, _, _]) mixed (by kernel_rfl) ?_; refine autoA ?_) | (refine WK.draw (ops := #[_, _, _, _, _, _, _, _, _, _, _, _, _, _, _, _, _, _, _]) [dq 0 0, dq 0 0, dq 0 0, dq 0 1, dq 0 1, dq 0 1, dq 0 0, dq 0 0, dq 0 0, dq 0 0, dq 0 0, dq 0 0, dq 0 0, dq 0 0, dq 0 0, dq 0 0, dm, dq 0 0, dm] mixed (by kernel_rfl) ?_; refine autoA ?_))
          try exact trivial
          rw [hs]
          exact hcut
    · have hinv := prt_inv (p := p) (l := l) n (Nat.le_refl _)
      rw [hP] at *
      have hm0 : 0 < m := by
        have h1 := hinv.lo 0 hn0
        rcases hinv.rng 0 with h2 | ⟨h2, h3⟩
        · simp only at h1 h2; omega
        · simp only at h3 h2; omega
      have hrng : ∀ x, x < n → ∃ c : Nat, of x = (c : Int) ∧ c < m := fun x hx => by
        have h1 := hinv.lo x hx
        rcases hinv.rng x with h2 | ⟨h2, h3⟩
        · simp only at h1 h2; omega
        · simp only at h3 h2; exact ⟨(of x).toNat, by omega, by omega⟩
      have hmn : m ≤ n := hinv.le
      obtain ⟨N, hN2⟩ : ∃ N, N = 2 * m + 1 := ⟨_, rfl⟩
      have hqN : quA 2 (2 * m) 0 [] m = .row N 0 m := by
        unfold quA; rw [if_neg (by omega)]; congr 1; omega
      have hSN : prtS' p n (of, m) = grpB p n of N (List.replicate m (.list true [])) := by
        unfold prtS' Sto.stk grpB
        rw [if_neg (show ¬ 2 * m = 0 by omega)]
        refine Sto.eta2 (fun i => ?_) (show 2 + 2 * m = N + 1 by omega)
        have e : ((Sto.none.add (boxP p)).add (.row 1 (tabI n of) false)).next + 2 * m - 1 = N := by show 2 + 2 * m - 1 = N; omega
        show (if i = ((Sto.none.add (boxP p)).add (.row 1 (tabI n of) false)).next + 2 * m - 1 then _ else _) = _
        rw [e]
      simp only [hqN, hSN]
      refine WK.ownAll N 4 m (if_pos rfl) (Nat.lt_succ_self N) ?_
      have e0 : ((grpB p n of N (List.replicate m (.list true []))).set N (.row 1 (ownsL (N + 1) m fun _ => []) false)).toks 4 m (fun _ => 0) = grpS p n of N m [] := by
        unfold grpS
        refine Sto.eta2 (fun i => ?_) rfl
        show (if N + 1 ≤ i ∧ i < N + 1 + m then _ else if i = N then _ else if i = N then _ else _) = if N + 1 ≤ i ∧ i < N + 1 + m then _ else if i = N then _ else _
        split
        · rfl
        · split <;> rfl
      refine Eq.mpr (congrArg (fun τ => WK (C gl) none 134 _ _ _ τ) e0) ?_
      have hnb : Nonempty (PLift (n < 100000 ∧ l.length < 1000000 ∧ m ≤ n)) := ⟨⟨hn, hl, hmn⟩⟩
      clear hn hl hmn
      have H := trivial
      refine autoA ?_
      repeat' (first | (refine WK.draw (ops := #[_, _, _, _, _, _, _, _, _, _, _, _]) [dq 0 0, dq 0 0, dq 0 0, dq 0 0, dm, dq 0 0, dq 0 0, dq 0 0, dq 1 0, dm, dq 0 0, dq 0 0] mixed (by kernel_rfl) ?_; refine autoA ?_) | (refine WK.draw0 (ops := #[_, _, _, _, _, _, _, _, _, _, _, _, _, _, _, _, _, _, _, _, _, _, _, _, _, _, _, _, _]) mixed (by kernel_rfl) ?_; refine autoA ?_) | (refine WK.draw (ops := #[_, _, _, _, _, _, _, _, _, _, _, _, _, _, _, _, _, _, _]) [dq 0 0, dq 0 0, dq 0 0, dq 0 1, dq 0 1, dq 0 1, dq 0 0, dq 0 0, dq 0 0, dq 0 0, dq 0 0, dq 0 0, dq 0 0, dq 0 0, dq 0 0, dq 0 0, dm, dq 0 0, dm] mixed (by kernel_rfl) ?_; refine autoA ?_))
      try exact trivial
      obtain ⟨⟨hn, hl, hmn⟩⟩ := hnb
      refine rangeA (l.length) [5, 6, 7, 78] [] (fun i => []) (fun i => (grpS p n of N m (l.take i))) ?_ ?_
      · intro i hi
        have mg := arc_get l i hi
        obtain ⟨ha, hb⟩ := hN _ (List.getElem_mem hi)
        have htk : l.take (i + 1) = l.take i ++ [l[i]] := (List.take_append_getElem hi).symm
        obtain ⟨c, hc, hcm⟩ := hrng _ ha
        obtain ⟨d, hd, hdm⟩ := hrng _ hb
        have mf : (tabI n of).getD l[i].fr .undef = .int .i64 (c : Int) := by rw [tabI_get _ _ _ ha, hc]
        have mt : (tabI n of).getD l[i].to .undef = .int .i64 (d : Int) := by rw [tabI_get _ _ _ hb, hd]
        have hN1 : 1 < N := by omega
        have gt := grpS_t (p := p) (n := n) (of := of) (N := N) (m := m) (l := l.take i) hcm
        have g0 := grpS_0 (p := p) (n := n) (of := of) (N := N) (m := m) (l := l.take i) hN1
        have g1 := grpS_1 (p := p) (n := n) (of := of) (N := N) (m := m) (l := l.take i) hN1
        have gN := grpS_N (p := p) (n := n) (of := of) (N := N) (m := m) (l := l.take i)
        have gn := grpS_next (p := p) (n := n) (of := of) (N := N) (m := m) (l := l.take i)
        have hsk := fun (h : (of l[i].fr == of l[i].to && passA p l[i]) = false) => grpS_skip (p := p) (n := n) (of := of) (N := N) (m := m) (l := l.take i) (a := l[i]) h
        have hsn := fun (h : (of l[i].fr == of l[i].to && passA p l[i]) = true) => grpS_snoc (p := p) (n := n) (of := of) (N := N) (m := m) (l := l.take i) (a := l[i]) h hc hcm
        rw [← htk] at hsk hsn
        rw [hc, hd] at hsk hsn
        have hll : (grpL p (l.take i) of (c : Int)).length ≤ 1000000 := by
          unfold grpL
          exact Nat.le_trans (List.length_filter_le _ _) (by rw [List.length_take]; omega)
        have hob : ∀ x ∈ (ownsL (N + 1) m fun j => (grpL p (l.take i) of (j : Int)).map encArc).set c (.own (N + 1 + c) ((grpL p (l.take i) of (c : Int)).map encArc ++ [encArc l[i]])), ∀ c ∈ x.cells, Bel (N + 1 + m) c := by
          rw [owns_set hcm]
          have := bel_owns4 (B := N + 1) (n := m) (m := N + 1 + m) (Nat.le_refl _) fun j => if j = c then grpL p (l.take i) of (c : Int) ++ [l[i]] else grpL p (l.take i) of (j : Int)
          refine (congrArg (fun z => ∀ x ∈ ownsL (N + 1) m z, ∀ c ∈ x.cells, Bel (N + 1 + m) c) (funext fun j => ?_)).mp this
          show List.map encArc (if j = c then _ else _) = if j = c then _ else _
          split
          · rw [List.map_append]; rfl
          · rfl
        generalize hτ' : grpS p n of N m (l.take (i + 1)) = τ' at *
        generalize hτ : grpS p n of N m (l.take i) = τ at *
        have ho := owns_get (B := N + 1) (A := fun j => (grpL p (l.take i) of (j : Int)).map encArc) hcm
        have hol := owns_len (N + 1) m fun j => (grpL p (l.take i) of (j : Int)).map encArc
        generalize (ownsL (N + 1) m fun j => (grpL p (l.take i) of (j : Int)).map encArc) = O at *
        generalize hL : grpL p (l.take i) of (c : Int) = L at *
        generalize hA : l[i] = a at *
        obtain ⟨F, hF⟩ : ∃ F, N + 1 + c = F := ⟨_, rfl⟩
        rw [hF] at gt ho hsn hob
        have lt0 : 0 < τ.next := by omega
        have lt1 : 1 < τ.next := by omega
        have ltN : N < τ.next := by omega
        have ltf : F < τ.next := by omega
        have nq : (N = F) = False := by simp; omega
        have nf1 : (1 = F) = False := by simp; omega
        have nn1 : (1 = N) = False := by simp; omega
        have nf0 : (0 = F) = False := by simp; omega
        have nn0 : (0 = N) = False := by simp; omega
        have nq2 : (F = N) = False := by simp; omega
        have nz_0 : (0 = τ.next) = False := by simp; omega
        have nx_0 : ∀ j, (0 = τ.next + j) = False := fun j => by simp; omega
        have nz_1 : (1 = τ.next) = False := by simp; omega
        have nx_1 : ∀ j, (1 = τ.next + j) = False := fun j => by simp; omega
        have nz_N : (N = τ.next) = False := by simp; omega
        have nx_N : ∀ j, (N = τ.next + j) = False := fun j => by simp; omega
        have nz_f : (F = τ.next) = False := by simp; omega
        have nx_f : ∀ j, (F = τ.next + j) = False := fun j => by simp; omega
        have hll' : Nonempty (PLift (L.length ≤ 1000000)) := ⟨⟨hll⟩⟩
        rw [← gn] at hob
        clear gn hn hll hl hmn hN2 hN1 hF
        cases q0 : ((c : Int) == (d : Int)) with
        | false =>
          have hfin := hτ'.trans (hsk (by rw [q0]; rfl))
          have H := And.intro @nz_0 (And.intro @nx_0 (And.intro @nz_1 (And.intro @nx_1 (And.intro @hi (And.intro @ha (And.intro @hb (And.intro @mg (And.intro @mf (And.intro @mt (And.intro @g0 (And.intro @g1 (And.intro @q0 (And.intro @hfin @Int.toNat_natCast)))))))))))))
          refine autoA ?_
          repeat' (first | (refine WK.draw (ops := #[_, _, _, _, _, _, _, _, _, _, _, _]) [dq 0 0, dq 0 0, dq 0 0, dq 0 0, dm, dq 0 0, dq 0 0, dq 0 0, dq 1 0, dm, dq 0 0, dq 0 0] mixed (by kernel_rfl) ?_; refine autoA ?_) | (refine WK.draw0 (ops := #[_, _, _, _, _, _, _, _, _, _, _, _, _, _, _, _, _, _, _, _, _, _, _, _, _, _, _, _, _]) mixed (by kernel_rfl) ?_; refine autoA ?_) | (refine WK.draw (ops := #[_, _, _, _, _, _, _, _, _, _, _, _, _, _, _, _, _, _, _]) [dq 0 0, dq 0 0, dq 0 0, dq 0 1, dq 0 1, dq 0 1, dq 0 0, dq 0 0, dq 0 0, dq 0 0, dq 0 0, dq 0 0, dq 0 0, dq 0 0, dq 0 0, dq 0 0, dm, dq 0 0, dm] mixed (by kernel_rfl) ?_; refine autoA ?_))
          try exact trivial
          rw [hτ]
          exact cutA
        | true =>
        cases q1 : (andI .i64 a.ma p.an == 0) with
        | false =>
          have hp : passA p a = false := by unfold passA; rw [q1]; rfl
          have hfin := hτ'.trans (hsk (by rw [q0, hp]; rfl))
          have H := And.intro @nz_0 (And.intro @nx_0 (And.intro @nz_1 (And.intro @nx_1 (And.intro @hi (And.intro @ha (And.intro @hb (And.intro @mg (And.intro @mf (And.intro @mt (And.intro @g0 (And.intro @g1 (And.intro @q0 (And.intro @q1 (And.intro @hfin @Int.toNat_natCast))))))))))))))
          refine autoA ?_
          repeat' (first | (refine WK.draw (ops := #[_, _, _, _, _, _, _, _, _, _, _, _]) [dq 0 0, dq 0 0, dq 0 0, dq 0 0, dm, dq 0 0, dq 0 0, dq 0 0, dq 1 0, dm, dq 0 0, dq 0 0] mixed (by kernel_rfl) ?_; refine autoA ?_) | (refine WK.draw0 (ops := #[_, _, _, _, _, _, _, _, _, _, _, _, _, _, _, _, _, _, _, _, _, _, _, _, _, _, _, _, _]) mixed (by kernel_rfl) ?_; refine autoA ?_) | (refine WK.draw (ops := #[_, _, _, _, _, _, _, _, _, _, _, _, _, _, _, _, _, _, _]) [dq 0 0, dq 0 0, dq 0 0, dq 0 1, dq 0 1, dq 0 1, dq 0 0, dq 0 0, dq 0 0, dq 0 0, dq 0 0, dq 0 0, dq 0 0, dq 0 0, dq 0 0, dq 0 0, dm, dq 0 0, dm] mixed (by kernel_rfl) ?_; refine autoA ?_))
          try exact trivial
          rw [hτ]
          exact cutA
        | true =>
        cases q2 : (andI .i64 a.ot p.bn == 0) with
        | false =>
          have hp : passA p a = false := by unfold passA; rw [q1, q2]; rfl
          have hfin := hτ'.trans (hsk (by rw [q0, hp]; rfl))
          have H := And.intro @nz_0 (And.intro @nx_0 (And.intro @nz_1 (And.intro @nx_1 (And.intro @hi (And.intro @ha (And.intro @hb (And.intro @mg (And.intro @mf (And.intro @mt (And.intro @g0 (And.intro @g1 (And.intro @q0 (And.intro @q1 (And.intro @q2 (And.intro @hfin @Int.toNat_natCast)))))))))))))))
          refine autoA ?_
          repeat' (first | (refine WK.draw (ops := #[_, _, _, _, _, _, _, _, _, _, _, _]) [dq 0 0, dq 0 0, dq 0 0, dq 0 0, dm, dq 0 0, dq 0 0, dq 0 0, dq 1 0, dm, dq 0 0, dq 0 0] mixed (by kernel_rfl) ?_; refine autoA ?_) | (refine WK.draw0 (ops := #[_, _, _, _, _, _, _, _, _, _, _, _, _, _, _, _, _, _, _, _, _, _, _, _, _, _, _, _, _]) mixed (by kernel_rfl) ?_; refine autoA ?_) | (refine WK.draw (ops := #[_, _, _, _, _, _, _, _, _, _, _, _, _, _, _, _, _, _, _]) [dq 0 0, dq 0 0, dq 0 0, dq 0 1, dq 0 1, dq 0 1, dq 0 0, dq 0 0, dq 0 0, dq 0 0, dq 0 0, dq 0 0, dq 0 0, dq 0 0, dq 0 0, dq 0 0, dm, dq 0 0, dm] mixed (by kernel_rfl) ?_; refine autoA ?_))
          try exact trivial
          rw [hτ]
          exact cutA
        | true =>
          have hp : passA p a = true := by unfold passA; rw [q1, q2]; rfl
          have hfin := hτ'.trans (hsn (by rw [q0, hp]; rfl))
          have H := And.intro @nz_0 (And.intro @nx_0 (And.intro @nz_1 (And.intro @nx_1 (And.intro @hi (And.intro @ha (And.intro @hb (And.intro @hcm (And.intro @mg (And.intro @mf (And.intro @mt (And.intro @g0 (And.intro @g1 (And.intro @gN (And.intro @gt (And.intro @ho (And.intro @hol (And.intro @q0 (And.intro @q1 (And.intro @q2 (And.intro @nz_N (And.intro @nx_N (And.intro @nz_f (And.intro @nx_f (And.intro @nq (And.intro @nq2 (And.intro @hfin (And.intro @Int.toNat_natCast @Nat.zero_add)))))))))))))))))))))))))))
          refine autoA ?_
          repeat' (first | (refine WK.draw (ops := #[_, _, _, _, _, _, _, _, _, _, _, _]) [dq 0 0, dq 0 0, dq 0 0, dq 0 0, dm, dq 0 0, dq 0 0, dq 0 0, dq 1 0, dm, dq 0 0, dq 0 0] mixed (by kernel_rfl) ?_; refine autoA ?_) | (refine WK.draw0 (ops := #[_, _, _, _, _, _, _, _, _, _, _, _, _, _, _, _, _, _, _, _, _, _, _, _, _, _, _, _, _]) mixed (by kernel_rfl) ?_; refine autoA ?_) | (refine WK.draw (ops := #[_, _, _, _, _, _, _, _, _, _, _, _, _, _, _, _, _, _, _]) [dq 0 0, dq 0 0, dq 0 0, dq 0 1, dq 0 1, dq 0 1, dq 0 0, dq 0 0, dq 0 0, dq 0 0, dq 0 0, dq 0 0, dq 0 0, dq 0 0, dq 0 0, dq 0 0, dm, dq 0 0, dm] mixed (by kernel_rfl) ?_; refine autoA ?_))
          try exact trivial
          obtain ⟨⟨hll⟩⟩ := hll'
          have hml : (L.map encArc).length = L.length := List.length_map ..
          have hok : OKEs 4 (L.map encArc) = True := eq_true (okes_map fun _ => by simp only [encArc, go_sem, seval, reduceCtorEq])
          have H := And.intro @nz_0 (And.intro @nx_0 (And.intro @nz_1 (And.intro @nx_1 (And.intro @hml (And.intro @hok (And.intro @gt (And.intro @nz_N (And.intro @nx_N (And.intro @nz_f (And.intro @nx_f (And.intro @nq @nq2)))))))))))
          refine appBd ?_
          first | exact trivial | clear H
          clear hll
          have H := And.intro @nz_0 (And.intro @nx_0 (And.intro @nz_1 (And.intro @nx_1 (And.intro @g0 (And.intro @g1 (And.intro @gN (And.intro @gt (And.intro @mf (And.intro @ha (And.intro @ho (And.intro @hol (And.intro @hcm (And.intro @nf0 (And.intro @nf1 (And.intro @nn0 (And.intro @nn1 (And.intro @nz_N (And.intro @nx_N (And.intro @nz_f (And.intro @nx_f (And.intro @nq (And.intro @nq2 (And.intro @hfin (And.intro @Int.toNat_natCast @Nat.zero_add))))))))))))))))))))))))
          refine autoA ?_
          repeat' (first | (refine WK.draw (ops := #[_, _, _, _, _, _, _, _, _, _, _, _]) [dq 0 0, dq 0 0, dq 0 0, dq 0 0, dm, dq 0 0, dq 0 0, dq 0 0, dq 1 0, dm, dq 0 0, dq 0 0] mixed (by kernel_rfl) ?_; refine autoA ?_) | (refine WK.draw0 (ops := #[_, _, _, _, _, _, _, _, _, _, _, _, _, _, _, _, _, _, _, _, _, _, _, _, _, _, _, _, _]) mixed (by kernel_rfl) ?_; refine autoA ?_) | (refine WK.draw (ops := #[_, _, _, _, _, _, _, _, _, _, _, _, _, _, _, _, _, _, _]) [dq 0 0, dq 0 0, dq 0 0, dq 0 1, dq 0 1, dq 0 1, dq 0 0, dq 0 0, dq 0 0, dq 0 0, dq 0 0, dq 0 0, dq 0 0, dq 0 0, dq 0 0, dq 0 0, dm, dq 0 0, dm] mixed (by kernel_rfl) ?_; refine autoA ?_))
          try exact trivial
          rw [hτ]
          exact cut_two ltf ltN trivial hob
      · rw [List.take_length]
        have hN1 : 1 < N := by omega
        have g1 := grpS_1 (p := p) (n := n) (of := of) (N := N) (m := m) (l := l) hN1
        have gN := grpS_N (p := p) (n := n) (of := of) (N := N) (m := m) (l := l)
        generalize hτ : grpS p n of N m l = τ at *
        have gN2 : (τ.frz 1 (tabI n of)).get N = some (.row 1 (ownsL (N + 1) m fun j => (grpL p l of (j : Int)).map encArc) false) := by rw [Sto.get_frz, if_neg (by omega), gN]
        have hol := owns_len (N + 1) m fun j => (grpL p l of (j : Int)).map encArc
        have htl := tabI_len n of
        have nN1 : (N = 1) = False := by simp; omega
        clear hn hl hmn hN1
        refine WK.freeze 1 g1 ?_
        refine WK.freeze N gN2 ?_
        have H := And.intro @nN1 (And.intro @htl @hol)
        refine autoA ?_
        repeat' (first | (refine WK.draw (ops := #[_, _, _, _, _, _, _, _, _, _, _, _]) [dq 0 0, dq 0 0, dq 0 0, dq 0 0, dm, dq 0 0, dq 0 0, dq 0 0, dq 1 0, dm, dq 0 0, dq 0 0] mixed (by kernel_rfl) ?_; refine autoA ?_) | (refine WK.draw0 (ops := #[_, _, _, _, _, _, _, _, _, _, _, _, _, _, _, _, _, _, _, _, _, _, _, _, _, _, _, _, _]) mixed (by kernel_rfl) ?_; refine autoA ?_) | (refine WK.draw (ops := #[_, _, _, _, _, _, _, _, _, _, _, _, _, _, _, _, _, _, _]) [dq 0 0, dq 0 0, dq 0 0, dq 0 1, dq 0 1, dq 0 1, dq 0 0, dq 0 0, dq 0 0, dq 0 0, dq 0 0, dq 0 0, dq 0 0, dq 0 0, dq 0 0, dq 0 0, dm, dq 0 0, dm] mixed (by kernel_rfl) ?_; refine autoA ?_))
        try exact trivial
        refine ⟨⟨AV.le_tup ⟨?_, ?_, trivial⟩, ?_⟩, cut_none _⟩
        · rw [List.take_of_length_le (by rw [tabI_len]; exact Nat.le_refl _)]; exact .refl _
        · rw [List.take_of_length_le (by rw [owns_len]; exact Nat.le_refl _)]
          exact AV.le_list (fun e => by cases e) (leEs_maps _ fun j => ⟨le_own _ _, trivial⟩)
        · exact belE_map (fun j => .list _ _ fun x hx c hc => by
            obtain ⟨z, _, rfl⟩ := List.mem_map.1 hx
            simp only [encArc, AV.cells, List.mem_cons, List.not_mem_nil, or_false] at hc
            rcases hc with rfl | rfl | rfl | rfl <;> exact .int _ _) _
end
end Go.Sx
namespace Go.Sx
open Go Go.Lg Go.Proofs
theorem b142 {gl : GL} : Body (C gl).P 142 Tryd.f142 (codeOf Tryd.f142) := ⟨Tryd.func142, by kernel_rfl, by kernel_rfl⟩
theorem b81 {gl : GL} : Body (C gl).P 81 Tryd.f81 (codeOf Tryd.f81) := ⟨Tryd.func81, by kernel_rfl, by kernel_rfl⟩
def marO (g : Arc → Int) (l : List Arc) : Int := l.foldl (fun z a => orI .i64 z (g a)) 0
theorem marO_snoc (g : Arc → Int) (l : List Arc) (a : Arc) : marO g (l ++ [a]) = orI .i64 (marO g l) (g a) := by unfold marO; rw [List.foldl_append]; rfl
def okG (p : Pair) (l : List Arc) : Bool := decide (0 < l.length) && (anI .i64 p.aa (marO (·.ma) l) == 0 && anI .i64 p.ba (marO (·.ot) l) == 0)
def cycF (p : Pair) (l : List Arc) (of : Nat → Int) : Nat → Nat → Bool
  | 0, _ => false
  | k + 1, i => if okG p (grpL p l of (k : Int)) then cycF p l of k i || (of i == (k : Int)) else cycF p l of k i
theorem cut_cy (o : AObj) (n : Nat) (f g : Nat → Bool) : Cut ((Sto.none.add o).add (.row 1 (tabL n f) false)) ((Sto.none.add o).add (.row 1 (tabL n g) false)) ((Sto.none.add o).add (.row 1 (tabL n g) false)) := by
  have e : (Sto.none.add o).add (.row 1 (tabL n g) false) = ((Sto.none.add o).add (.row 1 (tabL n f) false)).set 1 (.row 1 (tabL n g) false) := Sto.eta2 (fun i => by
    show (if i = 1 then _ else _) = if i = 1 then _ else if i = 1 then _ else _
    split <;> rfl) rfl
  rw [e]
  exact cut_set1 (show 1 < 2 from Nat.lt_succ_self 1) (of_eq_true (tab_bel _ _ _))
section
variable {gl : GL}
theorem cycles_ok (p : Pair) (n : Nat) (l : List Arc) (hn0 : 0 < n) (hn : n < 100000) (hl : l.length < 1000000) (hN : InN n l) (of : Nat → Int) (m : Nat) (hP : prtN p l n n = (of, m)) :
    PCall (C gl) 142 [.int .i64 n, .list false (l.map encArc), encPair p] (.list false (tabL n (cycF p l of m))) := by
  refine pcallX (callX_of b142 (by simp [Tryd.ntmps142]) ?_) (by simp only [AllCl, cl_list, cl_int, cl_encPair, and_true, true_and]; exact clE_arc l) (by rw [cl_list]; exact clE_tab _ _)
  have hpa : Ctr (C gl) 188 [.int .i64 n, .list false (l.map encArc), encPair p] True (.tup [.list false (tabI n of), .list false ((List.range m).map fun k : Nat => AV.list false ((grpL p l of (k : Int)).map encArc))]) := ⟨fun _ => parts_ok p n l hn0 hn hl hN of m hP⟩
  simp only [encPair_eq] at hpa
  have hmn : m ≤ n := by have := (prt_inv (p := p) (l := l) n (Nat.le_refl _)).le; rw [hP] at this; exact this
  have z1 : ((0 : Int) ≤ (n : Int)) = True := by simp
  have z2 : ((n : Int) ≤ (n : Int)) = True := by simp
  have z4 : ((n : Int) ≤ 281474976710656) = True := by simp; omega
  have z5 : ((n : Int) * 1 ≤ 281474976710656) = True := by simp; omega
  have hnb : Nonempty (PLift (n < 100000 ∧ l.length < 1000000 ∧ m ≤ n)) := ⟨⟨hn, hl, hmn⟩⟩
  have hzi : List.replicate n (AV.bool false) = tabL n (cycF p l of 0) := by
    unfold tabL
    rw [show (fun i : Nat => AV.bool (cycF p l of 0 i)) = Function.const Nat (AV.bool false) from rfl, List.map_const, List.length_range]
  have hW : ((List.range m).map fun k : Nat => AV.list false ((grpL p l of (k : Int)).map encArc)).length = m := by simp
  have hWg : ∀ k, k < m → ((List.range m).map fun k : Nat => AV.list false ((grpL p l of (k : Int)).map encArc)).getD k .undef = .list false ((grpL p l of (k : Int)).map encArc) := fun k hk => by
    rw [List.getD_eq_getElem?_getD, List.getElem?_map, List.getElem?_range hk]; rfl
  generalize hWe : ((List.range m).map fun k : Nat => AV.list false ((grpL p l of (k : Int)).map encArc)) = Wl at *
  clear hn hl hmn
  refine W.of ?_
  rw [Tryd.ntmps142]
  simp only [toK, codeOf, Tryd.f142, go_sem, seval, reduceCtorEq]
  have H := And.intro @encPair_eq (And.intro @z1 (And.intro @z2 (And.intro @z4 (And.intro @z5 (And.intro @hW (And.intro @Int.toNat_natCast @hzi))))))
  refine autoA ?_
  try exact trivial
  obtain ⟨⟨hn, hl, hmn⟩⟩ := hnb
  refine rangeA (m) [5, 7, 8, 26] [] (fun i => []) (fun i => ((Sto.none.add (.box [.int .i64 p.an, .int .i64 p.aa, .int .i64 p.bn, .int .i64 p.ba])).add (.row 1 (tabL n (cycF p l of i)) false))) ?_ ?_
  · intro k hk
    have gw := hWg k hk
    have hGl : (grpL p l of (k : Int)).length ≤ 1000000 := by unfold grpL; exact Nat.le_trans (List.length_filter_le _ _) (by omega)
    have hfin : ∀ i, cycF p l of (k + 1) i = if okG p (grpL p l of (k : Int)) then cycF p l of k i || (of i == (k : Int)) else cycF p l of k i := fun i => rfl
    generalize hf' : cycF p l of (k + 1) = f' at *
    generalize hf : cycF p l of k = f at *
    generalize grpL p l of (k : Int) = G at *
    have hnb : Nonempty (PLift (n < 100000 ∧ m ≤ n ∧ G.length ≤ 1000000)) := ⟨⟨hn, hmn, hGl⟩⟩
    have hlen := arc_len G
    clear hn hl hmn hGl
    have H := And.intro @hk (And.intro @gw (And.intro @hW (And.intro @hlen @Int.toNat_natCast)))
    refine autoA ?_
    try exact trivial
    rcases id hnb with ⟨⟨hn, hmn, hGl⟩⟩
    have m0 : marO (·.ma) [] = 0 := rfl
    have m1 : marO (·.ot) [] = 0 := rfl
    refine WK.rangeX (G.length) [5, 7, 8, 10, 11, 26, 27, 28, 33] [12, 13] (fun j => [.int .i64 (marO (·.ma) (G.take j)), .int .i64 (marO (·.ot) (G.take j))]) (fun j => ((Sto.none.add (.box [.int .i64 p.an, .int .i64 p.aa, .int .i64 p.bn, .int .i64 p.ba])).add (.row 1 (tabL n f) false))) (by omega) (by decide) (by simp only [go_sem, seval, reduceCtorEq, m0, m1]) (by simp only [go_sem, seval, reduceCtorEq, m0, m1]) (by simp only [go_sem, seval, reduceCtorEq, m0, m1, List.take_zero]) (by first | rfl | (simp only [go_sem, seval, reduceCtorEq, m0, m1]; done) | (refine Sto.ext' (by simp only [go_sem, seval, reduceCtorEq, m0, m1]) (fun i => ?_); simp only [go_sem, seval, reduceCtorEq, m0, m1]; repeat' split; all_goals (first | rfl | omega | simp_all))) ?_ ?_
    · intro j hj
      have mg := arc_get G j hj
      have h1 : marO (·.ma) (G.take (j + 1)) = orI .i64 (marO (·.ma) (G.take j)) G[j].ma := by rw [← List.take_append_getElem hj]; exact marO_snoc _ _ _
      have h2 : marO (·.ot) (G.take (j + 1)) = orI .i64 (marO (·.ot) (G.take j)) G[j].ot := by rw [← List.take_append_getElem hj]; exact marO_snoc _ _ _
      generalize G[j] = a at *
      clear hn hmn hGl
      have H := And.intro @hj (And.intro @mg (And.intro @hlen (And.intro @h1 (And.intro @h2 @Int.toNat_natCast))))
      refine autoA ?_
      try exact trivial
      exact cutA
    · rw [List.take_length]
      have hoff : okG p G = false → f' = f := fun h => funext fun i => by rw [hfin, if_neg (by rw [h]; exact Bool.false_ne_true)]
      have hon : okG p G = true → ∀ i, f' i = (f i || (of i == (k : Int))) := fun h i => by rw [hfin, if_pos h]
      have hgd : okG p G = (decide (0 < G.length) && (anI .i64 p.aa (marO (·.ma) G) == 0 && anI .i64 p.ba (marO (·.ot) G) == 0)) := rfl
      clear hfin
      cases q0 : decide ((G.length : Int) > 0) with
      | false =>
        have e := hoff (by rw [hgd, show decide (0 < G.length) = false from decide_eq_false (by have := of_decide_eq_false q0; omega)]; rfl)
        clear hn hmn hGl
        have H := And.intro @hlen (And.intro @q0 @e)
        refine autoA ?_
        try exact trivial
        rw [hf, hf', e]
        exact cutA
      | true =>
      have hg1 : decide (0 < G.length) = true := decide_eq_true (by have := of_decide_eq_true q0; omega)
      cases q1 : (anI .i64 p.aa (marO (·.ma) G) == 0) with
      | false =>
        have e := hoff (by rw [hgd, q1, hg1]; rfl)
        clear hn hmn hGl
        have H := And.intro @hlen (And.intro @q0 (And.intro @q1 @e))
        refine autoA ?_
        try exact trivial
        rw [hf, hf', e]
        exact cutA
      | true =>
      cases q2 : (anI .i64 p.ba (marO (·.ot) G) == 0) with
      | false =>
        have e := hoff (by rw [hgd, q1, q2, hg1]; rfl)
        clear hn hmn hGl
        have H := And.intro @hlen (And.intro @q0 (And.intro @q1 (And.intro @q2 @e)))
        refine autoA ?_
        try exact trivial
        rw [hf, hf', e]
        exact cutA
      | true =>
        have e := hon (by rw [hgd, q1, q2, hg1]; rfl)
        have hlo := tabI_len n of
        clear hn hmn hGl hoff hon hgd
        have H := And.intro @hlen (And.intro @hlo (And.intro @q0 (And.intro @q1 @q2)))
        refine autoA ?_
        try exact trivial
        rcases id hnb with ⟨⟨hn, hmn, hGl⟩⟩
        have hx0 : (fun x : Nat => if x < 0 then f' x else f x) = f := funext fun x => if_neg (Nat.not_lt_zero _)
        refine WK.rangeX (n) [5, 7, 8, 10, 26, 27, 28] [] (fun j => []) (fun j => ((Sto.none.add (.box [.int .i64 p.an, .int .i64 p.aa, .int .i64 p.bn, .int .i64 p.ba])).add (.row 1 (tabL n fun x => if x < j then f' x else f x) false))) (by omega) (by decide) (by simp only [go_sem, seval, reduceCtorEq, hx0]) (by simp only [go_sem, seval, reduceCtorEq, hx0]) (by simp only [go_sem, seval, reduceCtorEq, hx0, List.take_zero]) (by first | rfl | (simp only [go_sem, seval, reduceCtorEq, hx0]; done) | (refine Sto.ext' (by simp only [go_sem, seval, reduceCtorEq, hx0]) (fun i => ?_); simp only [go_sem, seval, reduceCtorEq, hx0]; repeat' split; all_goals (first | rfl | omega | simp_all))) ?_ ?_
        · intro j hj
          have mg := tab_get n (fun x => if x < j then f' x else f x) j hj
          have mo := tabI_get n of j hj
          have hlm := tab_len n (fun x => if x < j then f' x else f x)
          have hst : (tabL n fun x => if x < j then f' x else f x).set j (.bool (f' j)) = tabL n fun x => if x < j + 1 then f' x else f x := by
            rw [tab_set]
            refine List.map_congr_left fun x _ => congrArg AV.bool ?_
            show (if x = j then f' j else if x < j then f' x else f x) = if x < j + 1 then f' x else f x
            by_cases e1 : x = j
            · subst e1; rw [if_pos rfl, if_pos (Nat.lt_succ_self _)]
            · rw [if_neg e1]
              by_cases e2 : x < j
              · rw [if_pos e2, if_pos (by omega)]
              · rw [if_neg e2, if_neg (by omega)]
          rw [show (if j < j then f' j else f j) = f j from if_neg (Nat.lt_irrefl _)] at mg
          have ej := e j
          clear hn hmn hGl
          cases q : f j with
          | true =>
            rw [q, Bool.true_or] at ej
            rw [q] at mg
            rw [ej] at hst
            have H := And.intro @hj (And.intro @mg (And.intro @hlm (And.intro @hlo (And.intro @hst (And.intro @Int.toNat_natCast @Nat.zero_add)))))
            refine autoA ?_
            try exact trivial
            first | done | exact cut_cy _ _ _ _
          | false =>
            rw [q, Bool.false_or] at ej
            rw [q] at mg
            rw [ej] at hst
            have H := And.intro @hj (And.intro @mg (And.intro @mo (And.intro @hlm (And.intro @hlo (And.intro @hst (And.intro @Int.toNat_natCast @Nat.zero_add))))))
            refine autoA ?_
            try exact trivial
            first | done | exact cut_cy _ _ _ _
        · have hx1 : (tabL n fun x => if x < n then f' x else f x) = tabL n f' := List.map_congr_left fun x hx => congrArg AV.bool (if_pos (List.mem_range.1 hx))
          rw [hx1]
          clear hn hmn hGl
          have H := trivial
          refine autoA ?_
          try exact trivial
          rw [hf, hf']
          exact cut_cy _ _ _ _
  · have hlt := tab_len n (cycF p l of m)
    clear hn hl hmn
    refine WK.freeze 1 (es := 1) (elems := tabL n (cycF p l of m)) (fz := false) rfl ?_
    have H := @hlt
    refine autoA ?_
    try exact trivial
    rw [List.take_of_length_le (by rw [tab_len]; exact Nat.le_refl _)]
    exact ⟨.refl _, cut_none _⟩
theorem Cycles_ok (an aa : Int) (n : Nat) (l : List Arc) (hn0 : 0 < n) (hn : n < 100000) (hl : l.length < 1000000) (hN : InN n l) (of : Nat → Int) (m : Nat) (hP : prtN ⟨an, aa, 0, 0⟩ l n n = (of, m)) :
    PCall (C gl) 81 [.int .i64 n, .list false (l.map encArc), .agg [.int .i64 an, .int .i64 aa]] (.list false (tabL n (cycF ⟨an, aa, 0, 0⟩ l of m))) := by
  refine pcallX (callX_of b81 (by simp [Tryd.ntmps81]) ?_) (by
    simp only [AllCl, cl_list, cl_int, and_true, true_and]
    refine ⟨clE_arc l, .agg _ fun c hc => ?_⟩
    simp only [List.mem_cons, List.not_mem_nil, or_false] at hc
    rcases hc with rfl | rfl <;> exact .int _ _) (by rw [cl_list]; exact clE_tab _ _)
  have hcy : Ctr (C gl) 142 [.int .i64 n, .list false (l.map encArc), encPair ⟨an, aa, 0, 0⟩] True (.list false (tabL n (cycF ⟨an, aa, 0, 0⟩ l of m))) := ⟨fun _ => cycles_ok _ n l hn0 hn hl hN of m hP⟩
  simp only [encPair_eq] at hcy
  clear hn hl
  refine W.of ?_
  rw [Tryd.ntmps81]
  simp only [toK, codeOf, Tryd.f81, go_sem, seval, reduceCtorEq]
  have H := trivial
  refine autoA ?_
  try exact trivial
  exact cut_none _
end
end Go.Sx
