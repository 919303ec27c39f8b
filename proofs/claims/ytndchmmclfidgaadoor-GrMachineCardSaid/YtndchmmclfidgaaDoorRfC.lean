import Derived.Test.YtndchmmclfidgaaDoorLgQt
import Derived.Test.YtndchmmclfidgaaDoorSxM
import Derived.Test.YtndchmmclfidgaaDoorLgW
import Derived.Test.YtndchmmclfidgaaDoorLgAw
import Derived.Test.YtndchmmclfidgaaDoorTbA
import Derived.Test.YtndchmmclfidgaaDoorLtlB
set_option maxRecDepth 100000
set_option maxHeartbeats 4000000
set_option linter.unusedSimpArgs false
set_option linter.unusedVariables false
set_option linter.unnecessarySimpa false
namespace Go.Sx
open Go Go.Lg Go.Proofs
theorem b207 {gl : GL} : Body (C gl).P 207 Tryd.f207 (codeOf Tryd.f207) := ⟨Tryd.func207, by kernel_rfl, by kernel_rfl⟩
attribute [go_sem] Option.isSome_some
structure Arc where
  fr : Nat
  to : Nat
  ma : Int
  ot : Int
def encArc (a : Arc) : AV := .agg [.int .i64 a.fr, .int .i64 a.to, .int .i64 a.ma, .int .i64 a.ot]
theorem cells_arc (a : Arc) : (encArc a).cells = [.int .i64 a.fr, .int .i64 a.to, .int .i64 a.ma, .int .i64 a.ot] := (rfl)
theorem arc_size (a : Arc) : (encArc a).cells.length = 4 := (rfl)
theorem arc_one (a : Arc) : ((encArc a).cells.take 4).all AV.one = true := (rfl)
theorem arc_take (a : Arc) : (encArc a).cells.take 4 = [.int .i64 a.fr, .int .i64 a.to, .int .i64 a.ma, .int .i64 a.ot] := (rfl)
attribute [go_sem] arc_size arc_one arc_take cells_arc
theorem encArc_eq (a : Arc) : encArc a = .agg [.int .i64 a.fr, .int .i64 a.to, .int .i64 a.ma, .int .i64 a.ot] := (rfl)
def turnA (a : Arc) : Arc := ⟨a.to, a.fr, a.ma, a.ot⟩
theorem cl_encArc (a : Arc) : Closed (encArc a) := by
  refine .agg _ fun c hc => ?_
  simp only [List.mem_cons, List.not_mem_nil, or_false] at hc
  rcases hc with rfl | rfl | rfl | rfl <;> exact .int _ _
theorem arc_len (l : List Arc) : (l.map encArc).length = l.length := List.length_map _
theorem arc_get (l : List Arc) (i : Nat) (h : i < l.length) : (l.map encArc).getD i .undef = encArc l[i] := by
  rw [List.getD_eq_getElem?_getD, List.getElem?_map, List.getElem?_eq_getElem h]; rfl
theorem clE_arc (l : List Arc) : ClE (l.map encArc) := by
  intro x hx c hc
  obtain ⟨a, _, rfl⟩ := List.mem_map.1 hx
  cases cl_encArc a with
  | agg _ h => exact h c hc
theorem bel_arc (m : Nat) (l : List Arc) : BelE m (l.map encArc) = True := eq_true fun x hx c hc => (clE_arc l x hx c hc).bel
attribute [go_sem] bel_arc arc_len
section
variable {gl : GL}
theorem turned_ok (l : List Arc) (hl : l.length < 1000000) : PCall (C gl) 207 [.list false (l.map encArc)] (.list false ((l.map turnA).map encArc)) := by
  refine pcallX (callX_of b207 (by simp [Tryd.ntmps207]) ?_) (by simp only [AllCl, cl_list, and_true]; exact clE_arc l) (by rw [cl_list]; exact clE_arc _)
  refine W.of ?_
  rw [Tryd.ntmps207]
  simp only [toK, codeOf, Tryd.f207, go_sem, seval, reduceCtorEq]
  have H := trivial
  refine autoA ?_
  try exact trivial
  refine WK.own0 3 4 (by decide) (by simp only [go_sem, seval, reduceCtorEq]) ?_
  refine rangeA (l.length) [6] [3] (fun i => [.own 0 (((l.take i).map turnA).map encArc)]) (fun i => (Sto.none.add (.tok 4 i))) ?_ ?_
  · intro i hi
    have mg := arc_get l i hi
    have hs : ((l.take i).map turnA).map encArc ++ [encArc (turnA l[i])] = ((l.take (i + 1)).map turnA).map encArc := by
      rw [← List.take_append_getElem hi, List.map_append, List.map_append]; rfl
    rw [encArc_eq] at hs
    have hln : (((l.take i).map turnA).map encArc).length = i := by simp; omega
    have hok : OKEs 4 (((l.take i).map turnA).map encArc) = True := eq_true (okes_map fun a => by rw [encArc_eq]; exact ⟨rfl, rfl⟩)
    have H := And.intro @hi (And.intro @mg (And.intro @hs (And.intro @hln (And.intro @hok @Int.toNat_natCast))))
    refine autoA ?_
    try exact trivial
    exact ⟨by rw [List.map_append]; exact .refl _, cutA⟩
  · rw [List.take_length]
    have H := trivial
    refine autoA ?_
    try exact trivial
    try exact cut_none _
end
theorem b208 {gl : GL} : Body (C gl).P 208 Tryd.f208 (codeOf Tryd.f208) := ⟨Tryd.func208, by kernel_rfl, by kernel_rfl⟩
structure Pair where
  an : Int
  aa : Int
  bn : Int
  ba : Int
def encPair (p : Pair) : AV := .agg [.int .i64 p.an, .int .i64 p.aa, .int .i64 p.bn, .int .i64 p.ba]
theorem encPair_eq (p : Pair) : encPair p = .agg [.int .i64 p.an, .int .i64 p.aa, .int .i64 p.bn, .int .i64 p.ba] := (rfl)
theorem cl_encPair (p : Pair) : Closed (encPair p) := by
  refine .agg _ fun c hc => ?_
  simp only [List.mem_cons, List.not_mem_nil, or_false] at hc
  rcases hc with rfl | rfl | rfl | rfl <;> exact .int _ _
def passA (p : Pair) (a : Arc) : Bool := andI .i64 a.ma p.an == 0 && andI .i64 a.ot p.bn == 0
def adjL (p : Pair) (l : List Arc) (j : Nat) : List Nat := (l.filter fun a => passA p a && a.fr == j).map (·.to)
theorem adj_snoc (p : Pair) (l : List Arc) (a : Arc) (j : Nat) : adjL p (l ++ [a]) j = if passA p a = true ∧ a.fr = j then adjL p l j ++ [a.to] else adjL p l j := by
  unfold adjL
  rw [List.filter_append, List.map_append]
  by_cases h : passA p a = true ∧ a.fr = j
  · rw [if_pos h]; simp [h.1, h.2]
  · rw [if_neg h]
    have : (passA p a && a.fr == j) = false := by
      cases h1 : passA p a with
      | false => rfl
      | true => rw [Bool.true_and]; exact beq_eq_false_iff_ne.2 fun h2 => h ⟨h1, h2⟩
    simp [this]
theorem adj_mem {p : Pair} {l : List Arc} {j y : Nat} : y ∈ adjL p l j ↔ ∃ a ∈ l, passA p a = true ∧ a.fr = j ∧ a.to = y := by
  unfold adjL
  simp only [List.mem_map, List.mem_filter, Bool.and_eq_true, beq_iff_eq]
  exact ⟨fun ⟨a, ⟨h1, h2, h3⟩, h4⟩ => ⟨a, h1, h2, h3, h4⟩, fun ⟨a, h1, h2, h3, h4⟩ => ⟨a, ⟨h1, h2, h3⟩, h4⟩⟩
inductive Path (p : Pair) (l : List Arc) : Nat → Nat → Prop
  | refl (x : Nat) : Path p l x x
  | step {x y z : Nat} (h : Path p l x y) (e : z ∈ adjL p l y) : Path p l x z
theorem Path.trans {p : Pair} {l : List Arc} {x y z : Nat} (h1 : Path p l x y) (h2 : Path p l y z) : Path p l x z := by
  induction h2 with
  | refl => exact h1
  | step _ e ih => exact .step ih e
noncomputable def reaB (p : Pair) (l : List Arc) (from' : Nat → Bool) (n : Nat) (k : Nat) : Bool := @decide (∃ x, x < n ∧ from' x = true ∧ Path p l x k) (Classical.propDecidable _)
theorem reaB_iff {p : Pair} {l : List Arc} {from' : Nat → Bool} {n k : Nat} : reaB p l from' n k = true ↔ ∃ x, x < n ∧ from' x = true ∧ Path p l x k := by unfold reaB; simp
def InN (n : Nat) (l : List Arc) : Prop := ∀ a ∈ l, a.fr < n ∧ a.to < n
abbrev SS := (Nat → Bool) × List Nat × Nat
def seeS (s : SS) (y : Nat) : SS := if s.1 y then s else (fun i => if i = y then true else s.1 i, s.2.1 ++ [y], s.2.2 + 1)
def seeL (s : SS) (ys : List Nat) : SS := ys.foldl seeS s
theorem seeL_snoc (s : SS) (ys : List Nat) (y : Nat) : seeL s (ys ++ [y]) = seeS (seeL s ys) y := by unfold seeL; rw [List.foldl_append]; rfl
def cntF' (out : Nat → Bool) (n : Nat) : Nat := ((List.range n).filter fun i => !out i).length
theorem cnt_set {out : Nat → Bool} {n y : Nat} (hy : y < n) (h : out y = false) : cntF' (fun i => if i = y then true else out i) n + 1 = cntF' out n := by
  induction n with
  | zero => omega
  | succ n ih =>
    unfold cntF' at ih ⊢
    rw [List.range_succ, List.filter_append, List.filter_append, List.length_append, List.length_append]
    by_cases e : y = n
    · subst e
      have e1 : (List.range y).filter (fun i => !(if i = y then true else out i)) = (List.range y).filter fun i => !out i := List.filter_congr fun i hi => by
        rw [if_neg (by have := List.mem_range.1 hi; omega)]
      rw [e1]
      simp [h]
    · have := ih (by omega)
      have e2 : ([n].filter fun i => !(if i = y then true else out i)) = [n].filter fun i => !out i := List.filter_congr fun i hi => by
        rw [List.mem_singleton] at hi; subst hi; rw [if_neg (Ne.symm e)]
      rw [e2]; omega
structure SInv (p : Pair) (l : List Arc) (from' : Nat → Bool) (n : Nat) (done : Nat → Prop) (s : SS) : Prop where
  q : ∀ x ∈ s.2.1, x < n ∧ s.1 x = true
  out : ∀ x, s.1 x = true → x < n ∧ ∃ z, z < n ∧ from' z = true ∧ Path p l z x
  frm : ∀ x, x < n → from' x = true → s.1 x = true
  cls : ∀ x, s.1 x = true → x ∈ s.2.1 ∨ done x
theorem see_inv {p : Pair} {l : List Arc} {from' : Nat → Bool} {n : Nat} {done : Nat → Prop} {s : SS} (h : SInv p l from' n done s) {y : Nat} (hy : y < n) (hr : ∃ z, z < n ∧ from' z = true ∧ Path p l z y) : SInv p l from' n done (seeS s y) ∧ (seeS s y).1 y = true ∧ (∀ x, s.1 x = true → (seeS s y).1 x = true) ∧
    2 * cntF' (seeS s y).1 n + (seeS s y).2.1.length ≤ 2 * cntF' s.1 n + s.2.1.length ∧ s.2.2 ≤ (seeS s y).2.2 ∧ (seeS s y).2.1.length + s.2.2 = s.2.1.length + (seeS s y).2.2 := by
  unfold seeS
  cases e : s.1 y with
  | true => rw [if_pos rfl]; exact ⟨h, e, fun _ h => h, Nat.le_refl _, Nat.le_refl _, rfl⟩
  | false =>
    rw [if_neg Bool.false_ne_true]
    have hc := cnt_set hy e
    refine ⟨⟨fun x hx => ?_, fun x hx => ?_, fun x hx hf => ?_, fun x hx => ?_⟩, if_pos rfl, fun x hx => ?_, ?_, Nat.le_succ _, ?_⟩
    · simp only [List.mem_append, List.mem_singleton] at hx
      rcases hx with hx | rfl
      · have := h.q x hx
        refine ⟨this.1, ?_⟩
        show (if x = y then true else s.1 x) = true
        split
        · rfl
        · exact this.2
      · exact ⟨hy, if_pos rfl⟩
    · have hx : (if x = y then true else s.1 x) = true := hx
      split at hx
      · rename_i e; subst e; exact ⟨hy, hr⟩
      · exact h.out x hx
    · show (if x = y then true else s.1 x) = true
      split
      · rfl
      · exact h.frm x hx hf
    · have hx : (if x = y then true else s.1 x) = true := hx
      simp only [List.mem_append, List.mem_singleton]
      split at hx
      · rename_i e; exact .inl (.inr e)
      · rcases h.cls x hx with h | h
        · exact .inl (.inl h)
        · exact .inr h
    · show (if x = y then true else s.1 x) = true
      split
      · rfl
      · exact hx
    · simp only [List.length_append, List.length_singleton]; omega
    · simp only [List.length_append, List.length_singleton]; omega
theorem seeL_inv {p : Pair} {l : List Arc} {from' : Nat → Bool} {n : Nat} {done : Nat → Prop} : ∀ (ys : List Nat) (s : SS), SInv p l from' n done s → (∀ y ∈ ys, y < n ∧ ∃ z, z < n ∧ from' z = true ∧ Path p l z y) →
    SInv p l from' n done (seeL s ys) ∧ (∀ y ∈ ys, (seeL s ys).1 y = true) ∧ (∀ x, s.1 x = true → (seeL s ys).1 x = true) ∧ 2 * cntF' (seeL s ys).1 n + (seeL s ys).2.1.length ≤ 2 * cntF' s.1 n + s.2.1.length ∧ s.2.2 ≤ (seeL s ys).2.2 ∧ (seeL s ys).2.1.length + s.2.2 = s.2.1.length + (seeL s ys).2.2
  | [], s, h, _ => ⟨h, fun y hy => (by cases hy), fun _ h => h, Nat.le_refl _, Nat.le_refl _, rfl⟩
  | y :: ys, s, h, hy => by
    obtain ⟨k1, k2⟩ := hy y List.mem_cons_self
    obtain ⟨j1, j2, j3, j4, j5, j6⟩ := see_inv h k1 k2
    obtain ⟨i1, i2, i3, i4, i5, i6⟩ := seeL_inv ys (seeS s y) j1 fun z hz => hy z (List.mem_cons_of_mem _ hz)
    show SInv p l from' n done (seeL (seeS s y) ys) ∧ _ ∧ _ ∧ _ ∧ _ ∧ _
    refine ⟨i1, fun z hz => ?_, fun x hx => i3 x (j3 x hx), ?_, ?_, ?_⟩
    · rcases List.mem_cons.1 hz with rfl | hz
      · exact i3 _ j2
      · exact i2 z hz
    · show 2 * cntF' (seeL (seeS s y) ys).1 n + (seeL (seeS s y) ys).2.1.length ≤ _; omega
    · show s.2.2 ≤ (seeL (seeS s y) ys).2.2; omega
    · show (seeL (seeS s y) ys).2.1.length + s.2.2 = s.2.1.length + (seeL (seeS s y) ys).2.2; omega
def popS (p : Pair) (l : List Arc) (s : SS) (x : Nat) (r : List Nat) : SS := seeL (s.1, r, s.2.2) (adjL p l x)
theorem pop_inv {p : Pair} {l : List Arc} {from' : Nat → Bool} {n : Nat} (hn : InN n l) {s : SS} {x : Nat} {r : List Nat} (hs : s.2.1 = r ++ [x]) (h : SInv p l from' n (fun x => ∀ y ∈ adjL p l x, s.1 y = true) s) :
    SInv p l from' n (fun w => ∀ y ∈ adjL p l w, (popS p l s x r).1 y = true) (popS p l s x r) ∧ 2 * cntF' (popS p l s x r).1 n + (popS p l s x r).2.1.length < 2 * cntF' s.1 n + s.2.1.length ∧ s.2.2 ≤ (popS p l s x r).2.2 ∧ (popS p l s x r).2.1.length + s.2.2 = r.length + (popS p l s x r).2.2 := by
  have hx := h.q x (by rw [hs]; simp)
  have hr : ∀ y ∈ adjL p l x, y < n ∧ ∃ z, z < n ∧ from' z = true ∧ Path p l z y := fun y hy => by
    obtain ⟨a, h1, h2, h3, h4⟩ := adj_mem.1 hy
    obtain ⟨z, z1, z2, z3⟩ := (h.out x hx.2).2
    exact ⟨by rw [← h4]; exact (hn a h1).2, z, z1, z2, .step z3 hy⟩
  have h0 : SInv p l from' n (fun y => y = x ∨ ∀ z ∈ adjL p l y, s.1 z = true) (s.1, r, s.2.2) := ⟨fun y hy => h.q y (by rw [hs]; exact List.mem_append_left _ hy), h.out, h.frm, fun y hy => by
    rcases h.cls y hy with hc | hc
    · rw [hs, List.mem_append, List.mem_singleton] at hc
      rcases hc with hc | hc
      · exact .inl hc
      · exact .inr (.inl hc)
    · exact .inr (.inr hc)⟩
  obtain ⟨i1, i2, i3, i4, i5, i6⟩ := seeL_inv (adjL p l x) (s.1, r, s.2.2) h0 hr
  have hlen : s.2.1.length = r.length + 1 := by rw [hs]; simp
  refine ⟨⟨i1.q, i1.out, i1.frm, fun y hy => ?_⟩, ?_, i5, i6⟩
  · rcases i1.cls y hy with hc | rfl | hc
    · exact .inl hc
    · exact .inr i2
    · exact .inr fun z hz => i3 z (hc z hz)
  · show 2 * cntF' (seeL (s.1, r, s.2.2) (adjL p l x)).1 n + (seeL (s.1, r, s.2.2) (adjL p l x)).2.1.length < _
    simp only at i4; omega
theorem end_inv {p : Pair} {l : List Arc} {from' : Nat → Bool} {n : Nat} (hn : InN n l) {s : SS} (hs : s.2.1 = []) (h : SInv p l from' n (fun x => ∀ y ∈ adjL p l x, s.1 y = true) s) (k : Nat) : s.1 k = reaB p l from' n k := by
  rw [Bool.eq_iff_iff, reaB_iff]
  constructor
  · exact fun hk => (h.out k hk).2
  · rintro ⟨x, x1, x2, x3⟩
    induction x3 with
    | refl => exact h.frm x x1 x2
    | step _ e ih =>
      rcases h.cls _ ih with hc | hc
      · rw [hs] at hc; cases hc
      · exact hc _ e
def adjS (p : Pair) (n : Nat) (fr : Nat → Bool) (l : List Arc) : Sto :=
  (((Sto.none.add (.box [.int .i64 p.an, .int .i64 p.aa, .int .i64 p.bn, .int .i64 p.ba])).add (.row 1 (tabL n fr) false)).add (.row 1 (ownsL 3 n fun j => (adjL p l j).map natE) false)).toks 1 n fun j => (adjL p l j).length
theorem adjS_next (p : Pair) (n : Nat) (fr : Nat → Bool) (l : List Arc) : (adjS p n fr l).next = n + 3 := by unfold adjS; rw [toks_next]; show 3 + n = _; omega
theorem adjS_0 (p : Pair) (n : Nat) (fr : Nat → Bool) (l : List Arc) : (adjS p n fr l).get 0 = some (.box [.int .i64 p.an, .int .i64 p.aa, .int .i64 p.bn, .int .i64 p.ba]) := by unfold adjS; rw [toks_lo (show 0 < 3 by decide)]; rfl
theorem adjS_1 (p : Pair) (n : Nat) (fr : Nat → Bool) (l : List Arc) : (adjS p n fr l).get 1 = some (.row 1 (tabL n fr) false) := by unfold adjS; rw [toks_lo (show 1 < 3 by decide)]; rfl
theorem adjS_2 (p : Pair) (n : Nat) (fr : Nat → Bool) (l : List Arc) : (adjS p n fr l).get 2 = some (.row 1 (ownsL 3 n fun j => (adjL p l j).map natE) false) := by unfold adjS; rw [toks_lo (show 2 < 3 by decide)]; rfl
theorem adjS_t (p : Pair) (n : Nat) (fr : Nat → Bool) (l : List Arc) {j : Nat} (h : j < n) : (adjS p n fr l).get (3 + j) = some (.tok 1 (adjL p l j).length) := by unfold adjS; exact toks_at h
theorem adjS_top (p : Pair) (n : Nat) (fr : Nat → Bool) (l : List Arc) : (adjS p n fr l).Top := top_toks (top_add (top_add (top_add top_none)))
theorem adjS_skip {p : Pair} {n : Nat} {fr : Nat → Bool} {l : List Arc} {a : Arc} (h : passA p a = false) : adjS p n fr (l ++ [a]) = adjS p n fr l := by
  have e : adjL p (l ++ [a]) = adjL p l := funext fun j => by rw [adj_snoc, if_neg (by rw [h]; exact fun h => absurd h.1 Bool.false_ne_true)]
  unfold adjS; rw [e]
theorem adjS_snoc {p : Pair} {n : Nat} {fr : Nat → Bool} {l : List Arc} {a : Arc} (h : passA p a = true) (ha : a.fr < n) :
    adjS p n fr (l ++ [a]) = ((adjS p n fr l).set (3 + a.fr) (.tok 1 ((adjL p l a.fr).length + 1))).set 2 (.row 1 ((ownsL 3 n fun j => (adjL p l j).map natE).set a.fr (.own (3 + a.fr) ((adjL p l a.fr).map natE ++ [natE a.to]))) false) := by
  have e : ∀ j, adjL p (l ++ [a]) j = if j = a.fr then adjL p l a.fr ++ [a.to] else adjL p l j := fun j => by
    rw [adj_snoc]
    by_cases hj : j = a.fr
    · rw [if_pos ⟨h, hj.symm⟩, if_pos hj, hj]
    · rw [if_neg (fun h => hj h.2.symm), if_neg hj]
  unfold adjS
  have e3 : (3 : Nat) = (((Sto.none.add (.box [.int .i64 p.an, .int .i64 p.aa, .int .i64 p.bn, .int .i64 p.ba])).add (.row 1 (tabL n fr) false)).add (.row 1 (ownsL 3 n fun j => (adjL p l j).map natE) false)).next := rfl
  rw [owns_set ha]
  conv => rhs; rw [show 3 + a.fr = (((Sto.none.add (.box [.int .i64 p.an, .int .i64 p.aa, .int .i64 p.bn, .int .i64 p.ba])).add (.row 1 (tabL n fr) false)).add (.row 1 (ownsL 3 n fun j => (adjL p l j).map natE) false)).next + a.fr from rfl, toks_set ha, toks_setlo (show 2 < 3 by decide)]
  refine Sto.eta2 (fun i => ?_) rfl
  have e1 : (ownsL 3 n fun j => (adjL p (l ++ [a]) j).map natE) = ownsL 3 n fun i => if i = a.fr then (adjL p l a.fr).map natE ++ [natE a.to] else (adjL p l i).map natE := by
    congr 1; funext j; rw [e]; split
    · rw [List.map_append]; rfl
    · rfl
  have e2 : (fun j => (adjL p (l ++ [a]) j).length) = fun i => if i = a.fr then (adjL p l a.fr).length + 1 else (adjL p l i).length := by
    funext j; rw [e]; split
    · rw [List.length_append]; rfl
    · rfl
  rw [e1]
  show (if 3 ≤ i ∧ i < 3 + n then some (AObj.tok 1 ((fun j => (adjL p (l ++ [a]) j).length) (i - 3))) else _) = if 3 ≤ i ∧ i < 3 + n then some (AObj.tok 1 ((fun i => if i = a.fr then (adjL p l a.fr).length + 1 else (adjL p l i).length) (i - 3))) else _
  rw [e2]
  split
  · rfl
  · show (if i = 2 then _ else _) = if i = 2 then _ else if i = 2 then _ else _
    split <;> rfl
theorem bel_owns {B n m : Nat} (h : B + n ≤ m) (A : Nat → List Nat) : ∀ x ∈ ownsL B n fun j => (A j).map natE, ∀ c ∈ x.cells, Bel m c := by
  intro x hx c hc
  obtain ⟨j, hj, rfl⟩ := List.mem_map.1 hx
  have hj := List.mem_range.1 hj
  simp only [AV.cells, List.mem_singleton] at hc
  subst hc
  refine .own _ _ (by omega) fun y hy d hd => ?_
  obtain ⟨z, _, rfl⟩ := List.mem_map.1 hy
  simp only [natE, AV.cells, List.mem_singleton] at hd
  subst hd; exact .int _ _
theorem cut_two {τ : Sto} {i j : Nat} {x y b : AObj} (hi : i < τ.next) (hj : j < τ.next) (hx : BelO τ.next x) (hy : BelO τ.next y) : Cut τ (((τ.set i x).set j y).add b) ((τ.set i x).set j y) := by
  refine Cut.by' (Nat.le_refl _) (Nat.le_succ _) (fun k hk => .inr ?_) fun k o hk ho => ⟨?_, ?_⟩
  · have hk : τ.next ≤ k := hk
    rw [Sto.get_set, if_neg (by omega), Sto.get_set, if_neg (by omega)]
  · have hk : k < τ.next := hk
    rw [Sto.get_add, if_neg (show ¬ k = ((τ.set i x).set j y).next from fun e => absurd hk (by rw [e]; exact Nat.lt_irrefl _))]; exact ho
  · rw [Sto.get_set] at ho
    split at ho
    · cases ho; exact .inr hy
    · rw [Sto.get_set] at ho
      split at ho
      · cases ho; exact .inr hx
      · exact .inl ho
theorem set_set (σ : Sto) (i : Nat) (x y : AObj) : (σ.set i x).set i y = σ.set i y := Sto.eta2 (fun j => by
  show (if j = i then some y else if j = i then some x else σ.get j) = if j = i then some y else σ.get j
  split <;> rfl) rfl
theorem set_same {σ : Sto} {i : Nat} {x : AObj} (h : σ.get i = some x) : σ.set i x = σ := Sto.eta2 (h := σ.get) (fun j => by
  show (if j = i then some x else σ.get j) = σ.get j
  split
  · rename_i e; rw [e, h]
  · rfl) rfl
theorem bel_nats (m : Nat) (l : List Nat) : BelE m (l.map natE) := belE_map (fun _ => .int _ _) _
theorem cut_out {τ : Sto} {n c c' : Nat} {o o' : Nat → Bool} {q q' : List Nat} (hl : 1 < τ.next) (ht : τ.Top) (hc : c ≤ c') :
    Cut ((τ.set 1 (.row 1 (tabL n o) false)).stk c 1 (q.map natE)) ((τ.set 1 (.row 1 (tabL n o') false)).stk c' 1 (q'.map natE)) ((τ.set 1 (.row 1 (tabL n o') false)).stk c' 1 (q'.map natE)) := by
  refine cut_stk rfl hc (top_set ht hl) (by rw [stk_next]; exact Nat.le_refl _) (fun i _ => rfl) (fun i x _ h => ?_) (fun m => bel_nats m _)
  rw [Sto.get_set] at h
  split at h
  · cases h; exact .inr (of_eq_true (tab_bel _ n o'))
  · rename_i e
    rw [Sto.get_set, if_neg e]; exact .inl h
theorem seeL_le (s : SS) : ∀ ys : List Nat, s.2.2 ≤ (seeL s ys).2.2 ∧ (seeL s ys).2.1.length ≤ s.2.1.length + ys.length := by
  intro ys
  induction ys generalizing s with
  | nil => exact ⟨Nat.le_refl _, Nat.le_refl _⟩
  | cons y ys ih =>
    have h := ih (seeS s y)
    have h1 : s.2.2 ≤ (seeS s y).2.2 ∧ (seeS s y).2.1.length ≤ s.2.1.length + 1 := by
      unfold seeS; split
      · exact ⟨Nat.le_refl _, Nat.le_succ _⟩
      · exact ⟨Nat.le_succ _, by simp⟩
    refine ⟨Nat.le_trans h1.1 h.1, Nat.le_trans h.2 ?_⟩
    simp only [List.length_cons]; omega
theorem seeL_s (s : SS) (L : List Nat) {k : Nat} (h : k < L.length) : seeL s (L.take (k + 1)) = seeS (seeL s (L.take k)) L[k] := by
  rw [← List.take_append_getElem h]; exact seeL_snoc s _ _
theorem bel_quA {m B c off n : Nat} {q0 : List Nat} (h : B + c ≤ m) : Bel m (quA B c off (q0.map natE) n) := by
  unfold quA
  split
  · refine .list _ _ fun x hx d hd => ?_
    obtain ⟨z, _, rfl⟩ := List.mem_map.1 (List.mem_of_mem_drop hx)
    simp only [natE, AV.cells, List.mem_singleton] at hd
    subst hd; exact .int _ _
  · exact .row _ _ _ (by omega)
theorem bel_quN {m B c n : Nat} (h : B + c ≤ m) : Bel m (quA B c 0 [] n) := bel_quA (q0 := []) h
section
variable {gl : GL}
theorem reach_ok (p : Pair) (n : Nat) (l : List Arc) (fr : Nat → Bool) (hn0 : 0 < n) (hn : n < 100000) (hl : l.length < 1000000) (hN : InN n l) :
    PCall (C gl) 208 [.int .i64 n, .list false (l.map encArc), .list false (tabL n fr), encPair p] (.list false (tabL n (reaB p l fr n))) := by
  refine pcallX (callX_of b208 (by simp [Tryd.ntmps208]) ?_) (by simp only [AllCl, cl_list, cl_int, cl_encPair, and_true, true_and]; exact ⟨clE_arc l, clE_tab _ _⟩) (by rw [cl_list]; exact clE_tab _ _)
  refine W.of ?_
  rw [Tryd.ntmps208]
  simp only [toK, codeOf, Tryd.f208, go_sem, seval, reduceCtorEq]
  have H := @encPair_eq
  refine autoA ?_
  repeat' (first | (refine WK.draw (ops := #[_, _, _, _, _, _, _, _, _, _, _, _, _, _]) [dq 0 0, dq 0 0, dq 0 1, dq 0 0, dq 0 0, dq 0 0, dq 0 0, dq 0 0, dq 0 0, dq 0 0, dq 0 0, dm, dq 0 0, dm] mixed (by kernel_rfl) ?_; refine autoA ?_))
  try exact trivial
  have hne : tabL n fr ≠ [] := fun h => by have := tab_len n fr; rw [h] at this; simp at this; omega
  refine appK_row (f := false) (xs := []) (ys := tabL n fr) (by first | (simp only [go_sem, seval, reduceCtorEq]; done) | (simp only [go_sem, seval, reduceCtorEq]; rfl)) (by first | (simp only [go_sem, seval, reduceCtorEq]; done) | (simp only [go_sem, seval, reduceCtorEq]; rfl)) (fun x hx => by cases hx) (by first | (simp only [go_sem, seval, reduceCtorEq]; done) | (simp only [go_sem, seval, reduceCtorEq]; rfl)) (by first | (simp only [go_sem, seval, reduceCtorEq]; done) | (simp only [go_sem, seval, reduceCtorEq]; rfl)) ?_ hne (by kernel_rfl) (by simp only [go_sem, seval, reduceCtorEq, List.length_nil]; omega) (by simp only [go_sem, seval, reduceCtorEq, List.length_nil]; omega) ?_
  · exact of_eq_true (tabok n fr)
  simp only [go_sem, seval, reduceCtorEq, List.nil_append, List.length_nil, Nat.zero_add]
  have z1 : ((0 : Int) ≤ (n : Int)) = True := by simp
  have z2 : ((n : Int) ≤ (n : Int)) = True := by simp
  have z3 : ((n : Int) * 24 ≤ 281474976710656) = True := by simp; omega
  have z4 : ((n : Int) ≤ 281474976710656) = True := by simp; omega
  have H := And.intro @z1 (And.intro @z2 (And.intro @z3 (And.intro @z4 @Int.toNat_natCast)))
  refine autoA ?_
  repeat' (first | (refine WK.draw (ops := #[_, _, _, _, _, _, _, _, _, _, _, _, _, _]) [dq 0 0, dq 0 0, dq 0 1, dq 0 0, dq 0 0, dq 0 0, dq 0 0, dq 0 0, dq 0 0, dq 0 0, dq 0 0, dm, dq 0 0, dm] mixed (by kernel_rfl) ?_; refine autoA ?_))
  try exact trivial
  refine WK.ownAll 2 1 n (by simp only [go_sem, seval, reduceCtorEq]; done) (by simp only [go_sem, seval, reduceCtorEq]) ?_
  have e0 : ((((Sto.none.add (.box [.int .i64 p.an, .int .i64 p.aa, .int .i64 p.bn, .int .i64 p.ba])).add (.row 1 (tabL n fr) false)).add (.row 1 (List.replicate n (.list true [])) false)).set 2 (.row 1 (ownsL 3 n fun _ => []) false)).toks 1 n (fun _ => 0) = adjS p n fr [] := by
    unfold adjS
    refine Sto.eta2 (fun i => ?_) rfl
    show (if 3 ≤ i ∧ i < 3 + n then _ else if i = 2 then _ else if i = 2 then _ else _) = if 3 ≤ i ∧ i < 3 + n then _ else if i = 2 then _ else _
    split
    · rfl
    · split <;> rfl
  refine Eq.mpr (congrArg (fun τ => WK (C gl) none 110 _ _ _ τ) e0) ?_
  refine rangeA (l.length) [0, 7, 9, 10, 24] [] (fun i => []) (fun i => (adjS p n fr (l.take i))) ?_ ?_
  · intro i hi
    have mg := arc_get l i hi
    obtain ⟨ha, hb⟩ := hN _ (List.getElem_mem hi)
    have htk : l.take (i + 1) = l.take i ++ [l[i]] := (List.take_append_getElem hi).symm
    have gt := adjS_t p n fr (l.take i) ha
    have g0 := adjS_0 p n fr (l.take i)
    have g2 := adjS_2 p n fr (l.take i)
    have gn := adjS_next p n fr (l.take i)
    have hsk := fun (h : passA p l[i] = false) => adjS_skip (p := p) (n := n) (fr := fr) (l := l.take i) (a := l[i]) h
    have hsn := fun (h : passA p l[i] = true) => adjS_snoc (p := p) (n := n) (fr := fr) (l := l.take i) (a := l[i]) h ha
    rw [← htk] at hsk hsn
    have hll : (adjL p (l.take i) l[i].fr).length ≤ 1000000 := by
      unfold adjL; rw [List.length_map]
      exact Nat.le_trans (List.length_filter_le _ _) (by rw [List.length_take]; omega)
    have hob : ∀ x ∈ (ownsL 3 n fun j => (adjL p (l.take i) j).map natE).set l[i].fr (.own (3 + l[i].fr) ((adjL p (l.take i) l[i].fr).map natE ++ [natE l[i].to])), ∀ c ∈ x.cells, Bel (n + 3) c := by
      rw [owns_set ha]
      have := bel_owns (B := 3) (n := n) (m := n + 3) (by omega) fun j => if j = l[i].fr then adjL p (l.take i) l[i].fr ++ [l[i].to] else adjL p (l.take i) j
      refine (congrArg (fun z => ∀ x ∈ ownsL 3 n z, ∀ c ∈ x.cells, Bel (n + 3) c) (funext fun j => ?_)).mp this
      show List.map natE (if j = l[i].fr then _ else _) = if j = l[i].fr then _ else _
      split
      · rw [List.map_append]; rfl
      · rfl
    generalize hτ' : adjS p n fr (l.take (i + 1)) = τ' at *
    generalize hτ : adjS p n fr (l.take i) = τ at *
    have ho := owns_get (B := 3) (A := fun j => (adjL p (l.take i) j).map natE) ha
    have hol := owns_len 3 n fun j => (adjL p (l.take i) j).map natE
    generalize (ownsL 3 n fun j => (adjL p (l.take i) j).map natE) = O at *
    generalize hL : adjL p (l.take i) l[i].fr = L at *
    generalize hA : l[i] = a at *
    have hτn : 3 ≤ τ.next := by omega
    have lt0 : 0 < τ.next := by omega
    have lt2 : 2 < τ.next := by omega
    have ltf : 3 + a.fr < τ.next := by omega
    have nq : (2 = 3 + a.fr) = False := by simp; omega
    have nq2 : (3 + a.fr = 2) = False := by simp; omega
    have nz_0 : (0 = τ.next) = False := by simp; omega
    have nx_0 : ∀ j, (0 = τ.next + j) = False := fun j => by simp; omega
    have nz_2 : (2 = τ.next) = False := by simp; omega
    have nx_2 : ∀ j, (2 = τ.next + j) = False := fun j => by simp; omega
    have nz_f : (3 + a.fr = τ.next) = False := by simp; omega
    have nx_f : ∀ j, (3 + a.fr = τ.next + j) = False := fun j => by simp; omega
    have hll' : Nonempty (PLift (L.length ≤ 1000000)) := ⟨⟨hll⟩⟩
    rw [← gn] at hob
    clear gn hτn hn hll hl
    cases q1 : (andI .i64 a.ma p.an == 0) with
    | false =>
      have hp : passA p a = false := by unfold passA; rw [q1]; rfl
      have hfin := hτ'.trans (hsk hp)
      have H := And.intro @nz_0 (And.intro @nx_0 (And.intro @nz_2 (And.intro @nx_2 (And.intro @hi (And.intro @mg (And.intro @g0 (And.intro @q1 (And.intro @hfin @Int.toNat_natCast))))))))
      refine autoA ?_
      repeat' (first | (refine WK.draw (ops := #[_, _, _, _, _, _, _, _, _, _, _, _, _, _]) [dq 0 0, dq 0 0, dq 0 1, dq 0 0, dq 0 0, dq 0 0, dq 0 0, dq 0 0, dq 0 0, dq 0 0, dq 0 0, dm, dq 0 0, dm] mixed (by kernel_rfl) ?_; refine autoA ?_))
      try exact trivial
      rw [hτ]
      exact cutA
    | true =>
    cases q2 : (andI .i64 a.ot p.bn == 0) with
    | false =>
      have hp : passA p a = false := by unfold passA; rw [q1, q2]; rfl
      have hfin := hτ'.trans (hsk hp)
      have H := And.intro @nz_0 (And.intro @nx_0 (And.intro @nz_2 (And.intro @nx_2 (And.intro @hi (And.intro @mg (And.intro @g0 (And.intro @q1 (And.intro @q2 (And.intro @hfin @Int.toNat_natCast)))))))))
      refine autoA ?_
      repeat' (first | (refine WK.draw (ops := #[_, _, _, _, _, _, _, _, _, _, _, _, _, _]) [dq 0 0, dq 0 0, dq 0 1, dq 0 0, dq 0 0, dq 0 0, dq 0 0, dq 0 0, dq 0 0, dq 0 0, dq 0 0, dm, dq 0 0, dm] mixed (by kernel_rfl) ?_; refine autoA ?_))
      try exact trivial
      rw [hτ]
      exact cutA
    | true =>
      have hp : passA p a = true := by unfold passA; rw [q1, q2]; rfl
      have hfin := hτ'.trans (hsn hp)
      have H := And.intro @nz_0 (And.intro @nx_0 (And.intro @nz_2 (And.intro @nx_2 (And.intro @hi (And.intro @mg (And.intro @g0 (And.intro @g2 (And.intro @gt (And.intro @ho (And.intro @hol (And.intro @ha (And.intro @q1 (And.intro @q2 (And.intro @nz_f (And.intro @nx_f (And.intro @nq (And.intro @nq2 (And.intro @hfin (And.intro @Int.toNat_natCast @Nat.zero_add)))))))))))))))))))
      refine autoA ?_
      repeat' (first | (refine WK.draw (ops := #[_, _, _, _, _, _, _, _, _, _, _, _, _, _]) [dq 0 0, dq 0 0, dq 0 1, dq 0 0, dq 0 0, dq 0 0, dq 0 0, dq 0 0, dq 0 0, dq 0 0, dq 0 0, dm, dq 0 0, dm] mixed (by kernel_rfl) ?_; refine autoA ?_))
      try exact trivial
      obtain ⟨⟨hll⟩⟩ := hll'
      have hml := nat_len L
      have hok : OKEs 1 (L.map natE) = True := eq_true (okes_map fun _ => by simp only [natE, go_sem, seval, reduceCtorEq])
      have H := And.intro @nz_0 (And.intro @nx_0 (And.intro @nz_2 (And.intro @nx_2 (And.intro @hml (And.intro @hok (And.intro @gt (And.intro @nz_f (And.intro @nx_f (And.intro @nq @nq2)))))))))
      refine appBd ?_
      first | exact trivial | clear H
      clear hll
      have H := And.intro @nz_0 (And.intro @nx_0 (And.intro @nz_2 (And.intro @nx_2 (And.intro @g0 (And.intro @g2 (And.intro @gt (And.intro @ho (And.intro @hol (And.intro @ha (And.intro @nz_f (And.intro @nx_f (And.intro @nq (And.intro @nq2 (And.intro @hfin (And.intro @Int.toNat_natCast @Nat.zero_add)))))))))))))))
      refine autoA ?_
      repeat' (first | (refine WK.draw (ops := #[_, _, _, _, _, _, _, _, _, _, _, _, _, _]) [dq 0 0, dq 0 0, dq 0 1, dq 0 0, dq 0 0, dq 0 0, dq 0 0, dq 0 0, dq 0 0, dq 0 0, dq 0 0, dm, dq 0 0, dm] mixed (by kernel_rfl) ?_; refine autoA ?_))
      try exact trivial
      rw [hτ]
      exact cut_two ltf lt2 trivial hob
  · rw [List.take_length]
    have hml : ∀ j, (adjL p l j).length ≤ 1000000 := fun j => by
      unfold adjL; rw [List.length_map]
      exact Nat.le_trans (List.length_filter_le _ _) (by omega)
    have gt := fun j (h : j < n) => adjS_t p n fr l h
    have g0 := adjS_0 p n fr l
    have g1 := adjS_1 p n fr l
    have g2 := adjS_2 p n fr l
    have gn := adjS_next p n fr l
    have top := adjS_top p n fr l
    generalize hτ : adjS p n fr l = τ at *
    have lt0 : 0 < τ.next := by omega
    have lt1 : 1 < τ.next := by omega
    have lt2 : 2 < τ.next := by omega
    have nz_0 : (0 = τ.next) = False := by simp; omega
    have nx_0 : ∀ j, (0 = τ.next + j) = False := fun j => by simp; omega
    have nz_1 : (1 = τ.next) = False := by simp; omega
    have nx_1 : ∀ j, (1 = τ.next + j) = False := fun j => by simp; omega
    have nz_2 : (2 = τ.next) = False := by simp; omega
    have nx_2 : ∀ j, (2 = τ.next + j) = False := fun j => by simp; omega
    obtain ⟨tr, htr⟩ : ∃ tr : Nat → List Nat, ∀ i, tr i = (List.range i).filter fr := ⟨_, fun _ => rfl⟩
    have tr0 : tr 0 = [] := by rw [htr]; rfl
    have trT : ∀ i, fr i = true → tr (i + 1) = tr i ++ [i] := fun i h => by rw [htr, htr, List.range_succ, List.filter_append]; simp [h]
    have trF : ∀ i, fr i = false → tr (i + 1) = tr i := fun i h => by rw [htr, htr, List.range_succ, List.filter_append]; simp [h]
    have trl : ∀ i, (tr i).length ≤ i := fun i => by rw [htr]; exact Nat.le_trans (List.length_filter_le _ _) (by simp)
    have q0 : quA τ.next 0 0 [] 0 = .list true [] := quA_0 _ _ _ _
    have s0 : τ.stk 0 1 [] = τ := stk_0 _ _ _
    have sg1 : ∀ c xs, (τ.stk c 1 xs).get 1 = some (.row 1 (tabL n fr) false) := fun c xs => by rw [stk_get lt1]; exact g1
    have trl0 : (tr 0).length = 0 := by rw [tr0]; rfl
    have trm0 : (tr 0).map natE = [] := by rw [tr0]; rfl
    have H := And.intro @trl0 (And.intro @trm0 (And.intro @q0 (And.intro @s0 @g1)))
    refine autoA ?_
    repeat' (first | (refine WK.draw (ops := #[_, _, _, _, _, _, _, _, _, _, _, _, _, _]) [dq 0 0, dq 0 0, dq 0 1, dq 0 0, dq 0 0, dq 0 0, dq 0 0, dq 0 0, dq 0 0, dq 0 0, dq 0 0, dm, dq 0 0, dm] mixed (by kernel_rfl) ?_; refine autoA ?_))
    try exact trivial
    refine WK.rangeX (n) [7, 9, 10, 60] [13] (fun i => [quA τ.next (tr i).length 0 [] (tr i).length]) (fun i => (τ.stk (tr i).length 1 ((tr i).map natE))) (by omega) (by decide) (by simp only [go_sem, seval, reduceCtorEq, trl0, trm0, q0, s0]) (by simp only [go_sem, seval, reduceCtorEq, trl0, trm0, q0, s0]) (by simp only [go_sem, seval, reduceCtorEq, trl0, trm0, q0, s0, List.take_zero]) (by first | rfl | (simp only [go_sem, seval, reduceCtorEq, trl0, trm0, q0, s0]; done) | (refine Sto.ext' (by simp only [go_sem, seval, reduceCtorEq, trl0, trm0, q0, s0]) (fun i => ?_); simp only [go_sem, seval, reduceCtorEq, trl0, trm0, q0, s0]; repeat' split; all_goals (first | rfl | omega | simp_all))) ?_ ?_
    · intro i hi
      have mg := tab_get n fr i hi
      have b1 := trl i
      have hok : OKEs 1 ((tr i).map natE) = True := eq_true (okes_map fun _ => by simp only [natE, go_sem, seval, reduceCtorEq])
      have hml2 := nat_len (tr i)
      cases q : fr i with
      | false =>
        have e := trF i q
        rw [q] at mg
        clear b1
        have H := And.intro @trl0 (And.intro @trm0 (And.intro @q0 (And.intro @s0 (And.intro @hi (And.intro @mg (And.intro @q (And.intro @sg1 @e)))))))
        refine autoA ?_
        repeat' (first | (refine WK.draw (ops := #[_, _, _, _, _, _, _, _, _, _, _, _, _, _]) [dq 0 0, dq 0 0, dq 0 1, dq 0 0, dq 0 0, dq 0 0, dq 0 0, dq 0 0, dq 0 0, dq 0 0, dq 0 0, dm, dq 0 0, dm] mixed (by kernel_rfl) ?_; refine autoA ?_))
        try exact trivial
        exact bel_quN (by rw [stk_next]; exact Nat.le_refl _)
      | true =>
        have e := trT i q
        rw [q] at mg
        have b2 : Nonempty (PLift ((tr i).length ≤ i)) := ⟨⟨b1⟩⟩
        clear b1
        have H := And.intro @trl0 (And.intro @trm0 (And.intro @q0 (And.intro @s0 (And.intro @hi (And.intro @mg (And.intro @q @sg1))))))
        refine autoA ?_
        repeat' (first | (refine WK.draw (ops := #[_, _, _, _, _, _, _, _, _, _, _, _, _, _]) [dq 0 0, dq 0 0, dq 0 1, dq 0 0, dq 0 0, dq 0 0, dq 0 0, dq 0 0, dq 0 0, dq 0 0, dq 0 0, dm, dq 0 0, dm] mixed (by kernel_rfl) ?_; refine autoA ?_))
        try exact trivial
        obtain ⟨⟨b1⟩⟩ := b2
        refine appK_qu (f := true) (c := (tr i).length) (off := 0) (q0 := []) (xs := (tr i).map natE) (ys := [.int .i64 (i : Int)]) (by first | (simp only [go_sem, seval, reduceCtorEq]; done) | (simp only [go_sem, seval, reduceCtorEq]; rfl)) (by kernel_rfl) (by simp only [go_sem, seval, reduceCtorEq, Nat.sub_zero, hml2]) top (Nat.zero_le _) (fun h => by rw [List.length_eq_zero_iff.1 h]; rfl) (of_eq_true hok) (by first | (simp only [go_sem, seval, reduceCtorEq]; done) | (simp only [go_sem, seval, reduceCtorEq]; rfl)) (by first | (simp only [go_sem, seval, reduceCtorEq]; done) | (simp only [go_sem, seval, reduceCtorEq]; rfl)) (by simp only [go_sem, seval, reduceCtorEq]) (by simp) (by kernel_rfl) (by simp only [go_sem, seval, reduceCtorEq, List.length_cons, List.length_nil, hml2]; omega) (by simp only [go_sem, seval, reduceCtorEq, List.length_cons, List.length_nil, hml2]; omega) ?_
        have e2 : (tr (i + 1)).length = (tr i).length + 1 := by rw [e]; simp
        have e3 : ((tr i).map natE).drop 0 ++ [AV.int .i64 (i : Int)] = (tr (i + 1)).map natE := by rw [e, List.map_append]; rfl
        have e4 : ((tr i).map natE).length - 0 + [AV.int .i64 (i : Int)].length = (tr i).length + 1 := by rw [hml2]; rfl
        rw [e3, e4]
        clear b1
        have H := And.intro @trl0 (And.intro @trm0 (And.intro @q0 (And.intro @s0 @e2)))
        refine autoA ?_
        repeat' (first | (refine WK.draw (ops := #[_, _, _, _, _, _, _, _, _, _, _, _, _, _]) [dq 0 0, dq 0 0, dq 0 1, dq 0 0, dq 0 0, dq 0 0, dq 0 0, dq 0 0, dq 0 0, dq 0 0, dq 0 0, dm, dq 0 0, dm] mixed (by kernel_rfl) ?_; refine autoA ?_))
        try exact trivial
        exact ⟨bel_quN (by rw [stk_next]; exact Nat.le_refl _), cut_stk rfl (Nat.le_succ _) top (by rw [stk_next]; exact Nat.le_refl _) (fun i _ => rfl) (fun i o _ h => .inl h) (fun m => bel_nats m _)⟩
    · have trn : tr n = (List.range n).filter fr := htr n
      have b1 := trl n
      clear trT trF trl htr trl0 trm0 tr0
      generalize tr n = T at *
      have hfr : tabL n fr = tabL n fun i => decide (i < n) && fr i := List.map_congr_left fun i hi => by show AV.bool (fr i) = AV.bool (decide (i < n) && fr i); rw [decide_eq_true (List.mem_range.1 hi), Bool.true_and]
      have hset : ∀ q, τ.get 1 = some (.row 1 q false) → τ.set 1 (.row 1 q false) = τ := fun q h => set_same h
      have hS0 : τ.set 1 (.row 1 (tabL n fun i => decide (i < n) && fr i) false) = τ := set_same (by rw [g1, hfr])
      have hI0 : SInv p l fr n (fun _ => False) (fun i => decide (i < n) && fr i, T, T.length) := ⟨fun x hx => by
          rw [trn, List.mem_filter, List.mem_range] at hx
          exact ⟨hx.1, by show (decide (x < n) && fr x) = true; rw [decide_eq_true hx.1, hx.2]; rfl⟩, fun x hx => by
          have hx : (decide (x < n) && fr x) = true := hx
          rw [Bool.and_eq_true, decide_eq_true_eq] at hx
          exact ⟨hx.1, x, hx.1, hx.2, .refl x⟩, fun x h1 h2 => by
          show (decide (x < n) && fr x) = true
          rw [decide_eq_true h1, h2]; rfl, fun x hx => by
          have hx : (decide (x < n) && fr x) = true := hx
          rw [Bool.and_eq_true, decide_eq_true_eq] at hx
          left
          show x ∈ T
          rw [trn, List.mem_filter, List.mem_range]; exact hx⟩
      have hcnt : cntF' (fun i => decide (i < n) && fr i) n ≤ n := by unfold cntF'; exact Nat.le_trans (List.length_filter_le _ _) (by simp)
      rw [andK_normal]
      refine WK.seq (WK.block ?_)
      refine WK.loopX [7, 9, 10] [13] (fun s : SS => [quA τ.next s.2.2 0 [] s.2.1.length]) (fun s => (τ.set 1 (.row 1 (tabL n s.1) false)).stk s.2.2 1 (s.2.1.map natE)) (fun s => SInv p l fr n (fun x => ∀ y ∈ adjL p l x, s.1 y = true) s ∧ s.2.1.length ≤ s.2.2 ∧ 2 * cntF' s.1 n + s.2.1.length ≤ 3 * n) (fun s => 2 * cntF' s.1 n + s.2.1.length) (fun i => decide (i < n) && fr i, T, T.length) (by decide) ⟨⟨hI0.q, hI0.out, hI0.frm, fun x hx => (hI0.cls x hx).imp id False.elim⟩, Nat.le_refl _, by simp only; omega⟩ (by simp only [go_sem, seval, reduceCtorEq]) (by simp only; rw [hS0]) ?_
      rintro ⟨out, q, c⟩ ⟨hI, hqc, hm⟩
      simp only at hI hqc hm
      have n1 : (τ.set 1 (.row 1 (tabL n out) false)).next = τ.next := rfl
      have top1 : (τ.set 1 (.row 1 (tabL n out) false)).Top := top_set top lt1
      have g1' : (τ.set 1 (.row 1 (tabL n out) false)).get 1 = some (.row 1 (tabL n out) false) := by rw [Sto.get_set, if_pos rfl]
      have g2' : (τ.set 1 (.row 1 (tabL n out) false)).get 2 = some (.row 1 (ownsL 3 n fun j => (adjL p l j).map natE) false) := by
        rw [Sto.get_set, if_neg (by decide)]; exact g2
      have hset2 : ∀ o', (τ.set 1 (.row 1 (tabL n out) false)).set 1 o' = τ.set 1 o' := fun o' => set_set _ _ _ _
      generalize hτ1 : τ.set 1 (.row 1 (tabL n out) false) = τ1 at *
      have lt0' : 0 < τ1.next := by omega
      have lt1' : 1 < τ1.next := by omega
      have lt2' : 2 < τ1.next := by omega
      have sg1 : ∀ c xs, (τ1.stk c 1 xs).get 1 = some (.row 1 (tabL n out) false) := fun c xs => by rw [stk_get lt1']; exact g1'
      have sg2 : ∀ c xs, (τ1.stk c 1 xs).get 2 = some (.row 1 (ownsL 3 n fun j => (adjL p l j).map natE) false) := fun c xs => by rw [stk_get lt2']; exact g2'
      rcases List.eq_nil_or_concat q with rfl | ⟨r, x, rfl⟩
      · have hend : tabL n out = tabL n (reaB p l fr n) := List.map_congr_left fun i _ => congrArg AV.bool (show out i = _ from end_inv (s := (out, [], c)) hN rfl hI i)
        refine WK.freeze 1 (sg1 _ _) ?_
        cases c with
        | zero =>
          simp only [quA_0, List.length_nil, List.drop_nil]
          have H := trivial
          refine autoA ?_
          repeat' (first | (refine WK.draw (ops := #[_, _, _, _, _, _, _, _, _, _, _, _, _, _]) [dq 0 0, dq 0 0, dq 0 1, dq 0 0, dq 0 0, dq 0 0, dq 0 0, dq 0 0, dq 0 0, dq 0 0, dq 0 0, dm, dq 0 0, dm] mixed (by kernel_rfl) ?_; refine autoA ?_))
          try exact trivial
          rw [List.take_of_length_le (by rw [tab_len]; exact Nat.le_refl _), hend]
          exact ⟨.refl _, cut_none _⟩
        | succ c =>
          have nq1 : (τ.next + c = 1) = False := by simp; omega
          simp only [quA_s, List.length_nil]
          have H := @nq1
          refine autoA ?_
          repeat' (first | (refine WK.draw (ops := #[_, _, _, _, _, _, _, _, _, _, _, _, _, _]) [dq 0 0, dq 0 0, dq 0 1, dq 0 0, dq 0 0, dq 0 0, dq 0 0, dq 0 0, dq 0 0, dq 0 0, dq 0 0, dm, dq 0 0, dm] mixed (by kernel_rfl) ?_; refine autoA ?_))
          try exact trivial
          rw [List.take_of_length_le (by rw [tab_len]; exact Nat.le_refl _), hend]
          exact ⟨.refl _, cut_none _⟩
      rw [List.concat_eq_append] at *
      have hlq : (r ++ [x]).length = r.length + 1 := by simp
      obtain ⟨c, rfl⟩ : ∃ c', c = c' + 1 := ⟨c - 1, by omega⟩
      have hxn : x < n := (hI.q x (by simp)).1
      have hr3 : r.length ≤ 300000 := by omega
      have hpop := pop_inv (s := (out, r ++ [x], c + 1)) hN rfl hI
      obtain ⟨p1, p2, p3, p4⟩ := hpop
      have gN : (τ1.stk (c + 1) 1 ((r ++ [x]).map natE)).get (τ.next + c) = some (.row 1 ((r ++ [x]).map natE) false) := by rw [← n1]; exact stk_row
      have w1 : IntKind.i64.wrap (((r.length + 1 : Nat) : Int) - 1) = (r.length : Int) := by rw [wrap_lt (by omega) (by omega)]; omega
      have e1 : ((r ++ [x]).map natE).getD r.length .undef = .int .i64 x := by
        rw [List.getD_eq_getElem?_getD, List.getElem?_map, List.getElem?_append_right (Nat.le_refl _), Nat.sub_self]; rfl
      have e2 : ((r ++ [x]).map natE).length = r.length + 1 := by rw [nat_len, hlq]
      have ho := owns_get (B := 3) (A := fun j => (adjL p l j).map natE) hxn
      have hol := owns_len 3 n fun j => (adjL p l j).map natE
      have z6 : decide (((r.length + 1 : Nat) : Int) > 0) = true := decide_eq_true (by omega)
      have hsv : Nonempty (PLift (r.length ≤ 300000 ∧ r.length + 1 ≤ c + 1 ∧ 2 * cntF' out n + (r ++ [x]).length ≤ 3 * n)) := ⟨⟨hr3, by omega, hm⟩⟩
      have hrlt : r.length < r.length + 1 := Nat.lt_succ_self _
      have hrle : r.length ≤ r.length + 1 := Nat.le_succ _
      generalize (ownsL 3 n fun j => (adjL p l j).map natE) = O at *
      simp only [quA_s, hlq]
      clear hr3 hm hqc hn hl b1 hcnt
      have H := And.intro @gN (And.intro @sg1 (And.intro @sg2 (And.intro @w1 (And.intro @e1 (And.intro @e2 (And.intro @ho (And.intro @hol (And.intro @hxn (And.intro @z6 (And.intro @hrlt (And.intro @hrle (And.intro @Int.toNat_natCast @Nat.zero_add))))))))))))
      refine autoA ?_
      repeat' (first | (refine WK.draw (ops := #[_, _, _, _, _, _, _, _, _, _, _, _, _, _]) [dq 0 0, dq 0 0, dq 0 1, dq 0 0, dq 0 0, dq 0 0, dq 0 0, dq 0 0, dq 0 0, dq 0 0, dq 0 0, dm, dq 0 0, dm] mixed (by kernel_rfl) ?_; refine autoA ?_))
      try exact trivial
      refine WK.rowtrunc (τ.next + c) r.length gN ?_
      have hst : ∀ ys zs, (τ1.stk (c + 1) 1 ys).set (τ.next + c) (.row 1 zs false) = τ1.stk (c + 1) 1 zs := fun ys zs => by rw [← n1]; exact stk_setrow
      have e3 : ((r ++ [x]).map natE).take r.length = r.map natE := by rw [List.map_append, List.take_append_of_le_length (by rw [nat_len]; exact Nat.le_refl _), List.take_of_length_le (by rw [nat_len]; exact Nat.le_refl _)]
      rw [e3, hst]
      have hLn : ∀ y ∈ adjL p l x, y < n := fun y hy => by
        obtain ⟨a, h1, _, _, h4⟩ := adj_mem.1 hy
        rw [← h4]; exact (hN a h1).2
      have hLl := hml x
      obtain ⟨f, hf⟩ : ∃ f : Nat → SS, ∀ k, f k = seeL (out, r, c + 1) ((adjL p l x).take k) := ⟨_, fun _ => rfl⟩
      have hf0 : f 0 = (out, r, c + 1) := by rw [hf]; rfl
      have hfs : ∀ k, (h : k < (adjL p l x).length) → f (k + 1) = seeS (f k) (adjL p l x)[k] := fun k h => by rw [hf, hf]; exact seeL_s _ _ h
      have hfl : ∀ k, c + 1 ≤ (f k).2.2 ∧ (f k).2.1.length ≤ r.length + 1000000 := fun k => by
        have := seeL_le (out, r, c + 1) ((adjL p l x).take k)
        rw [hf]
        refine ⟨this.1, Nat.le_trans this.2 ?_⟩
        rw [List.length_take]
        show r.length + _ ≤ _; omega
      have hfe : f (adjL p l x).length = popS p l (out, r ++ [x], c + 1) x r := by rw [hf, List.take_length]; rfl
      have qs : ∀ m, quA τ.next (c + 1) 0 [] m = .row (τ.next + c) 0 m := fun m => quA_s _ _ _ _ _
      have hmlx := nat_len (adjL p l x)
      generalize adjL p l x = L at *
      obtain ⟨⟨hr3, hqc, hm⟩⟩ := hsv
      have hLlt : L.length < 9223372036854775807 := by omega
      refine WK.rangeX (L.length) [7, 9, 10, 90] [13] (fun i => [quA τ.next (f i).2.2 0 [] (f i).2.1.length]) (fun i => ((τ.set 1 (.row 1 (tabL n (f i).1) false)).stk (f i).2.2 1 ((f i).2.1.map natE))) (by omega) (by decide) (by simp only [go_sem, seval, reduceCtorEq, hf0, qs, hτ1, hmlx, Nat.sub_zero]) (by simp only [go_sem, seval, reduceCtorEq, hf0, qs, hτ1, hmlx, Nat.sub_zero]) (by simp only [go_sem, seval, reduceCtorEq, hf0, qs, hτ1, hmlx, Nat.sub_zero, List.take_zero]) (by first | rfl | (simp only [go_sem, seval, reduceCtorEq, hf0, qs, hτ1, hmlx, Nat.sub_zero]; done) | (refine Sto.ext' (by simp only [go_sem, seval, reduceCtorEq, hf0, qs, hτ1, hmlx, Nat.sub_zero]) (fun i => ?_); simp only [go_sem, seval, reduceCtorEq, hf0, qs, hτ1, hmlx, Nat.sub_zero]; repeat' split; all_goals (first | rfl | omega | simp_all))) ?_ ?_
      · intro k hk
        have hs := hfs k hk
        have hb := hfl k
        have hy := hLn _ (List.getElem_mem hk)
        have e4 := nat_get L k hk
        rw [show L.getD k 0 = L[k] by rw [List.getD_eq_getElem?_getD, List.getElem?_eq_getElem hk]; rfl] at e4
        generalize hfk : f k = s at *
        obtain ⟨o, q', c'⟩ := s
        simp only at hb
        generalize L[k] = y at *
        have n2 : (τ.set 1 (.row 1 (tabL n o) false)).next = τ.next := rfl
        have sg : ∀ c xs, ((τ.set 1 (.row 1 (tabL n o) false)).stk c 1 xs).get 1 = some (.row 1 (tabL n o) false) := fun c xs => by
          rw [stk_get (by rw [n2]; exact lt1), Sto.get_set, if_pos rfl]
        have mg := tab_get n o y hy
        have hty := tab_set n o y true
        have hss : ∀ z, ((τ.set 1 (.row 1 (tabL n o) false)).stk c' 1 (q'.map natE)).set 1 (.row 1 z false) = (τ.set 1 (.row 1 z false)).stk c' 1 (q'.map natE) := fun z => by
          rw [stk_set (by rw [n2]; exact lt1), set_set]
        have hbw : Nonempty (PLift (c + 1 ≤ c' ∧ q'.length ≤ r.length + 1000000 ∧ r.length ≤ 300000)) := ⟨⟨hb.1, hb.2, hr3⟩⟩
        have hqn := nat_len q'
        clear hb hLl hr3 hm hqc hfl hLlt
        cases e : o y with
        | true =>
          have hfin : f (k + 1) = (o, q', c') := by rw [hs]; unfold seeS; rw [if_pos e]
          rw [e] at mg
          have H := And.intro @hk (And.intro @hy (And.intro @e4 (And.intro @hfk (And.intro @sg (And.intro @mg (And.intro @hfin (And.intro @hmlx @Int.toNat_natCast)))))))
          refine autoA ?_
          repeat' (first | (refine WK.draw (ops := #[_, _, _, _, _, _, _, _, _, _, _, _, _, _]) [dq 0 0, dq 0 0, dq 0 1, dq 0 0, dq 0 0, dq 0 0, dq 0 0, dq 0 0, dq 0 0, dq 0 0, dq 0 0, dm, dq 0 0, dm] mixed (by kernel_rfl) ?_; refine autoA ?_))
          try exact trivial
          exact bel_quN (by rw [stk_next]; exact Nat.le_refl _)
        | false =>
          have hfin : f (k + 1) = (fun i => if i = y then true else o i, q' ++ [y], c' + 1) := by rw [hs]; unfold seeS; rw [if_neg (show ¬ o y = true by rw [e]; exact Bool.false_ne_true)]
          rw [e] at mg
          have H := And.intro @hk (And.intro @hy (And.intro @e4 (And.intro @hfk (And.intro @sg (And.intro @mg (And.intro @hmlx (And.intro @hss (And.intro @hty (And.intro @Int.toNat_natCast @Nat.zero_add)))))))))
          refine autoA ?_
          repeat' (first | (refine WK.draw (ops := #[_, _, _, _, _, _, _, _, _, _, _, _, _, _]) [dq 0 0, dq 0 0, dq 0 1, dq 0 0, dq 0 0, dq 0 0, dq 0 0, dq 0 0, dq 0 0, dq 0 0, dq 0 0, dm, dq 0 0, dm] mixed (by kernel_rfl) ?_; refine autoA ?_))
          try exact trivial
          obtain ⟨⟨b1, b2, b3⟩⟩ := hbw
          refine appK_qu (σ := τ.set 1 (.row 1 (tabL n fun i => if i = y then true else o i) false)) (f := true) (c := c') (off := 0) (es := 1) (q0 := []) (xs := q'.map natE) (ys := [.int .i64 (y : Int)]) (by first | (simp only [go_sem, seval, reduceCtorEq]; done) | (simp only [go_sem, seval, reduceCtorEq]; rfl)) (by kernel_rfl) (by simp only [go_sem, seval, reduceCtorEq, Nat.sub_zero, hqn]) (top_set top lt1) (Nat.zero_le _) (fun h => by omega) (okes_map fun _ => by simp only [natE, go_sem, seval, reduceCtorEq]) (by first | (simp only [go_sem, seval, reduceCtorEq]; done) | (simp only [go_sem, seval, reduceCtorEq]; rfl)) (by first | (simp only [go_sem, seval, reduceCtorEq]; done) | (simp only [go_sem, seval, reduceCtorEq]; rfl)) (by simp only [go_sem, seval, reduceCtorEq]) (by simp) (by kernel_rfl) (by simp only [go_sem, seval, reduceCtorEq, List.length_cons, List.length_nil, hqn]; omega) (by simp only [go_sem, seval, reduceCtorEq, List.length_cons, List.length_nil, hqn]; omega) ?_
          have k3 : (q'.map natE).drop 0 ++ [AV.int .i64 (y : Int)] = (q' ++ [y]).map natE := by rw [List.map_append]; rfl
          have k4 : (q'.map natE).length - 0 + [AV.int .i64 (y : Int)].length = (q' ++ [y]).length := by rw [hqn, List.length_append]; rfl
          rw [k3, k4, show (τ.set 1 (.row 1 (tabL n fun i => if i = y then true else o i) false)).next = τ.next from rfl]
          clear b1 b2 b3
          have H := And.intro @hfin @hfk
          refine autoA ?_
          repeat' (first | (refine WK.draw (ops := #[_, _, _, _, _, _, _, _, _, _, _, _, _, _]) [dq 0 0, dq 0 0, dq 0 1, dq 0 0, dq 0 0, dq 0 0, dq 0 0, dq 0 0, dq 0 0, dq 0 0, dq 0 0, dm, dq 0 0, dm] mixed (by kernel_rfl) ?_; refine autoA ?_))
          try exact trivial
          exact ⟨bel_quN (by rw [stk_next]; exact Nat.le_refl _), cut_out lt1 top (Nat.le_succ _)⟩
      · have hbd : 2 * cntF' (popS p l (out, r ++ [x], c + 1) x r).1 n + (popS p l (out, r ++ [x], c + 1) x r).2.1.length < 2 * cntF' out n + (r.length + 1) := by
          have p2 : _ < 2 * cntF' out n + (r ++ [x]).length := p2
          omega
        have hq2 : (popS p l (out, r ++ [x], c + 1) x r).2.1.length ≤ (popS p l (out, r ++ [x], c + 1) x r).2.2 := by
          have p4 : (popS p l (out, r ++ [x], c + 1) x r).2.1.length + (c + 1) = r.length + (popS p l (out, r ++ [x], c + 1) x r).2.2 := p4
          omega
        have hcc : c + 1 ≤ (popS p l (out, r ++ [x], c + 1) x r).2.2 := p3
        rw [hfe]
        generalize popS p l (out, r ++ [x], c + 1) x r = s' at *
        simp only [go_sem, seval, reduceCtorEq, hmlx, Nat.sub_zero]
        refine ⟨s', ⟨p1, hq2, by omega⟩, hbd, ⟨.refl _, bel_quN (by rw [stk_next]; exact Nat.le_refl _)⟩, ?_⟩
        rw [← hτ1]
        exact cut_out lt1 top hcc
end
end Go.Sx
