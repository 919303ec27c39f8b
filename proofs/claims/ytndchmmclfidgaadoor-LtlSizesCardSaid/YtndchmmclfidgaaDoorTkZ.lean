import Derived.Test.YtndchmmclfidgaaDoorTkX
import Derived.Test.YtndchmmclfidgaaDoorSnA
import Derived.Test.YtndchmmclfidgaaDoorLgRz
import Derived.Test.YtndchmmclfidgaaDoorLgAv
set_option maxRecDepth 100000
set_option maxHeartbeats 4000000
set_option linter.unusedSimpArgs false
set_option linter.unusedVariables false
set_option linter.unnecessarySimpa false
namespace Go.Sx
open Go Go.Lg Go.Proofs
theorem b115 {gl : GL} : Body (C gl).P 115 Tryd.f115 (codeOf Tryd.f115) := ⟨Tryd.func115, by kernel_rfl, by kernel_rfl⟩
theorem b53 {gl : GL} : Body (C gl).P 53 Tryd.f53 (codeOf Tryd.f53) := ⟨Tryd.func53, by kernel_rfl, by kernel_rfl⟩
/-! ## ltl.Subs -/
def outV : Option Nat → List Fm → AV
  | none, _ => .list true []
  | some N, acc => .row N 0 acc.length
def rowN : Option Nat → Nat
  | none => 0
  | some N => N + 1
/-- The store while the subformulas are listed: acc is the list so far, in the row r. -/
def subSt (σ : Sto) (r : Option Nat) (acc : List Fm) : Sto :=
  ⟨fun i => if i = 1 then some (.box [outV r acc]) else if i = 2 then some (.mp (seenE (acc.map keyS))) else if some i = r then some (.row 3 (encFs acc) false) else σ.get i, max σ.next (rowN r)⟩
/-- What lies there beside the list and the map. -/
structure SubB (σ : Sto) : Prop where
  n5 : 5 ≤ σ.next
  g3 : σ.get 3 = some (.box [.map 2])
  g4 : σ.get 4 = some (.box [.fn 115 [.ptr 4 0, .ptr 3 0, .ptr 1 0]])
  up : ∀ i, σ.next ≤ i → σ.get i = none
def RowF (σ : Sto) : Option Nat → List Fm → Prop
  | none, acc => acc = []
  | some N, acc => 5 ≤ N ∧ σ.get N = none ∧ acc ≠ []
theorem subSt_get (σ : Sto) (r : Option Nat) (acc : List Fm) (i : Nat) : (subSt σ r acc).get i = if i = 1 then some (.box [outV r acc]) else if i = 2 then some (.mp (seenE (acc.map keyS))) else if some i = r then some (.row 3 (encFs acc) false) else σ.get i := (rfl)
theorem subSt_get1 (σ : Sto) (r : Option Nat) (acc : List Fm) : (subSt σ r acc).get 1 = some (.box [outV r acc]) := (rfl)
theorem subSt_get2 (σ : Sto) (r : Option Nat) (acc : List Fm) : (subSt σ r acc).get 2 = some (.mp (seenE (acc.map keyS))) := (rfl)
theorem subSt_get3 {σ : Sto} (h : SubB σ) {r : Option Nat} {acc : List Fm} (hr : RowF σ r acc) : (subSt σ r acc).get 3 = some (.box [.map 2]) := by
  have : ¬ some 3 = r := by
    rintro rfl
    have := hr.1; omega
  rw [subSt_get, if_neg (by decide), if_neg (by decide), if_neg this, h.g3]
theorem subSt_get4 {σ : Sto} (h : SubB σ) {r : Option Nat} {acc : List Fm} (hr : RowF σ r acc) : (subSt σ r acc).get 4 = some (.box [.fn 115 [.ptr 4 0, .ptr 3 0, .ptr 1 0]]) := by
  have : ¬ some 4 = r := by
    rintro rfl
    have := hr.1; omega
  rw [subSt_get, if_neg (by decide), if_neg (by decide), if_neg this, h.g4]
theorem subSt_next (σ : Sto) (r : Option Nat) (acc : List Fm) : (subSt σ r acc).next = max σ.next (rowN r) := (rfl)
/-- A box more, beside the list. -/
def subAdd (σ : Sto) (r : Option Nat) (o : AObj) : Sto := ⟨fun i => if i = max σ.next (rowN r) then some o else σ.get i, max σ.next (rowN r) + 1⟩
theorem subAdd_get (σ : Sto) (r : Option Nat) (o : AObj) (i : Nat) : (subAdd σ r o).get i = if i = max σ.next (rowN r) then some o else σ.get i := (rfl)
theorem subSt_add {σ : Sto} (h : SubB σ) {r : Option Nat} {acc : List Fm} (hr : RowF σ r acc) (o : AObj) : (subSt σ r acc).add o = subSt (subAdd σ r o) r acc := by
  have h5 := h.n5
  refine Sto.ext' ?_ fun i => ?_
  · show max σ.next (rowN r) + 1 = max (max σ.next (rowN r) + 1) (rowN r)
    omega
  · show (if i = max σ.next (rowN r) then some o else if i = 1 then _ else if i = 2 then _ else if some i = r then _ else σ.get i) =
      (if i = 1 then _ else if i = 2 then _ else if some i = r then _ else if i = max σ.next (rowN r) then some o else σ.get i)
    by_cases e : i = max σ.next (rowN r)
    · have n1 : ¬ i = 1 := by omega
      have n2 : ¬ i = 2 := by omega
      have n3 : ¬ some i = r := by
        rintro rfl
        simp only [rowN] at e
        omega
      rw [if_pos e, if_neg n1, if_neg n2, if_neg n3, if_pos e]
    · rw [if_neg e, if_neg e]
theorem subB_add {σ : Sto} (h : SubB σ) (r : Option Nat) (o : AObj) : SubB (subAdd σ r o) := by
  have h5 := h.n5
  refine ⟨?_, ?_, ?_, fun i hi => ?_⟩
  · show 5 ≤ max σ.next (rowN r) + 1; omega
  · rw [subAdd_get, if_neg (by omega), h.g3]
  · rw [subAdd_get, if_neg (by omega), h.g4]
  · have hi : max σ.next (rowN r) + 1 ≤ i := hi
    rw [subAdd_get, if_neg (by omega), h.up i (by omega)]
theorem rowF_add {σ : Sto} (h : SubB σ) {r : Option Nat} {acc : List Fm} (hr : RowF σ r acc) (o : AObj) : RowF (subAdd σ r o) r acc := by
  cases r with
  | none => exact hr
  | some N =>
    refine ⟨hr.1, ?_, hr.2.2⟩
    rw [subAdd_get, if_neg (by simp only [rowN]; omega), hr.2.1]
/-- A row that fits the greater store fits the smaller one. -/
theorem rowF_sub {σ : Sto} (h : SubB σ) {r r' : Option Nat} {o : AObj} {acc : List Fm} (hr : RowF (subAdd σ r o) r' acc) : RowF σ r' acc := by
  cases r' with
  | none => exact hr
  | some N =>
    refine ⟨hr.1, ?_, hr.2.2⟩
    have h2 : (if N = max σ.next (rowN r) then some o else σ.get N) = none := hr.2.1
    split at h2
    · cases h2
    · exact h2
theorem encFs_nb (m : Nat) (l : List Fm) : BelE m (encFs l) := fun x hx c hc => (closedFs l x hx c hc).bel
/-- What is beside the list is forgotten. -/
theorem sub_cut {σ : Sto} (h : SubB σ) {r r' : Option Nat} {o : AObj} {acc0 acc : List Fm} (hr : RowF σ r acc0) (hr' : RowF (subAdd σ r o) r' acc) (hle : rowN r ≤ rowN r') : Cut (subSt σ r acc0) (subSt (subAdd σ r o) r' acc) (subSt σ r' acc) := by
  have h5 := h.n5
  have hrs := rowF_sub h hr'
  refine Cut.by' (by simp only [subSt_next]; omega) (by simp only [subSt_next, subAdd]; omega) (fun i hi => .inl ?_) (fun i o' hi ho => ?_)
  · simp only [subSt_next] at hi
    have n3 : ¬ some i = r' := by
      rintro rfl
      simp only [rowN] at hi; omega
    rw [subSt_get, if_neg (by omega), if_neg (by omega), if_neg n3, h.up i (by omega)]
  · have ho' : (if i = 1 then some (AObj.box [outV r' acc]) else if i = 2 then some (.mp (seenE (acc.map keyS))) else if some i = r' then some (.row 3 (encFs acc) false) else σ.get i) = some o' := ho
    show (if i = 1 then some (AObj.box [outV r' acc]) else if i = 2 then some (.mp (seenE (acc.map keyS))) else if some i = r' then some (.row 3 (encFs acc) false) else (subAdd σ r o).get i) = some o' ∧ _
    split at ho'
    · rename_i e
      rw [if_pos e]
      refine ⟨ho', .inr ?_⟩
      cases ho'
      cases r' with
      | none => simp only [outV, go_sem, seval, reduceCtorEq]
      | some N =>
        simp only [outV, go_sem, seval, reduceCtorEq, subSt_next, rowN]
        omega
    rename_i e1
    rw [if_neg e1]
    split at ho'
    · rename_i e
      rw [if_pos e]
      refine ⟨ho', .inr ?_⟩
      cases ho'
      exact of_eq_true (seen_belO _ _)
    rename_i e2
    rw [if_neg e2]
    split at ho'
    · rename_i e
      rw [if_pos e]
      refine ⟨ho', .inr ?_⟩
      cases ho'
      exact encFs_nb _ _
    rename_i e3
    rw [if_neg e3]
    have hi' : i < σ.next := by
      refine Classical.byContradiction fun hn => ?_
      rw [h.up i (by omega)] at ho'; cases ho'
    refine ⟨?_, .inl ?_⟩
    · rw [subAdd_get, if_neg (by omega), ho']
    · have n3 : ¬ some i = r := by
        rintro rfl
        rw [hr.2.1] at ho'; cases ho'
      rw [subSt_get, if_neg e1, if_neg e2, if_neg n3, ho']
theorem encFs_mem {x : AV} : ∀ {l : List Fm}, x ∈ encFs l → ∃ g, g ∈ l ∧ x = encF g
  | f :: l, h => by
    rcases List.mem_cons.1 h with rfl | h
    · exact ⟨f, List.mem_cons_self, rfl⟩
    · obtain ⟨g, hg, e⟩ := encFs_mem h
      exact ⟨g, List.mem_cons_of_mem _ hg, e⟩
theorem dep_seq {α : Type} (P : Nat → α → α → Prop) (I : Nat → α → Prop) (a0 : α) (h0 : I 0 a0) : ∀ (n : Nat), (∀ i a, i < n → I i a → ∃ b, P i a b ∧ I (i + 1) b) → ∃ s : Nat → α, s 0 = a0 ∧ (∀ i, i ≤ n → I i (s i)) ∧ ∀ i, i < n → P i (s i) (s (i + 1))
  | 0, _ => ⟨fun _ => a0, rfl, fun i hi => by
      have : i = 0 := by omega
      subst this; exact h0, fun i hi => by omega⟩
  | n + 1, step => by
    obtain ⟨s, h1, h2, h3⟩ := dep_seq P I a0 h0 n fun i a hi => step i a (by omega)
    obtain ⟨b, k1, k2⟩ := step n (s n) (by omega) (h2 n (Nat.le_refl _))
    refine ⟨fun i => if i = n + 1 then b else s i, by simp [h1], fun i hi => ?_, fun i hi => ?_⟩
    · simp only
      by_cases e : i = n + 1
      · rw [if_pos e, e]; exact k2
      · rw [if_neg e]; exact h2 i (by omega)
    · simp only
      rw [if_neg (show ¬ i = n + 1 by omega)]
      by_cases e : i = n
      · subst e
        rw [if_pos rfl]; exact k1
      · rw [if_neg (by omega)]; exact h3 i (by omega)
section
variable {gl : GL}
def SubOK (gl : GL) (f : Fm) : Prop := ∀ (σ : Sto) (r : Option Nat) (acc : List Fm), SubB σ → RowF σ r acc → (∀ g ∈ acc, okA g) → acc.length + nN f < 1000000 →
  ∃ r', rowN r ≤ rowN r' ∧ RowF σ r' (allR f acc) ∧ CallX (C gl) 115 ([encF f] ++ [.ptr 4 0, .ptr 3 0, .ptr 1 0]) (subSt σ r acc) (.tup []) (subSt σ r' (allR f acc))
theorem subs_k (o v : Int) (l : List Fm) (hA : okA (.mk o v l)) (hs : Shrt (.mk o v l)) (hlen : l.length < 1000000) (hn : nN (.mk o v l) < 1000000) (hcp : PCall (C gl) 109 [encF (.mk o v l)] (encF (.mk o v l))) (ih : ∀ g ∈ l, SubOK gl g) : SubOK gl (.mk o v l) := by
  intro σ r acc hB hr hacc hb
  have hle : ∀ i, (nodesL (l.take i)).length ≤ (nodesL l).length := fun i => by
    have e := congrArg (fun l => (nodesL l).length) (List.take_append_drop i l)
    simp only [nodesL_app] at e
    omega
  have hstep : ∀ i (h : i < l.length), (allRL (l.take i) acc).length + nN l[i] ≤ acc.length + (nodesL l).length := fun i h => by
    have h1 := allRL_len (l.take i) acc
    have h2 := hle (i + 1)
    have e := congrArg (fun l => (nodesL l).length) (List.take_append_getElem h)
    simp only [nodesL_app, nodesL, List.append_nil] at e
    unfold nN
    omega
  have hall := allRL_len l acc
  have hnn : nN (.mk o v l) = (nodesL l).length + 1 := by simp [nN, nodesF]
  have hokL : ∀ m : List Fm, (∀ g ∈ m, okA g) → ∀ a : List Fm, (∀ g ∈ a, okA g) → ∀ g ∈ allRL m a, okA g := by
    intro m
    induction m with
    | nil => intro _ a h g hg; rw [allRL] at hg; exact h g hg
    | cons x m ih2 =>
      intro hm a h g hg
      rw [allRL] at hg
      exact ih2 (fun z hz => hm z (List.mem_cons_of_mem _ hz)) _ (okA_allR x (hm x List.mem_cons_self) a h) g hg
  have hsubA : ∀ g ∈ l, okA g := fun g hg => okA_sub hA hg
  let bf : AObj := .box [.int .i64 o, .int .i64 v, .list false (encFs l)]
  let bg : Fm → AObj := fun g => .box [.int .i64 g.op, .int .i64 g.var, .list false (encFs g.args)]
  have hB1 := subB_add hB r bf
  have hr1 := rowF_add hB hr bf
  obtain ⟨ρ, e0, hI, hP⟩ := dep_seq (fun i a b => ∀ h : i < l.length, CallX (C gl) 115 ([encF l[i]] ++ [.ptr 4 0, .ptr 3 0, .ptr 1 0]) (subSt (subAdd (subAdd σ r bf) a (bg l[i])) a (allRL (l.take i) acc)) (.tup []) (subSt (subAdd (subAdd σ r bf) a (bg l[i])) b (allRL (l.take (i + 1)) acc)) ∧
      rowN a ≤ rowN b ∧ RowF (subAdd (subAdd σ r bf) a (bg l[i])) b (allRL (l.take (i + 1)) acc))
    (fun i a => rowN r ≤ rowN a ∧ RowF (subAdd σ r bf) a (allRL (l.take i) acc)) r ⟨Nat.le_refl _, by rw [List.take_zero, allRL]; exact hr1⟩ l.length fun i a hi ⟨q0, ha⟩ => by
      have hx := List.getElem_mem hi
      obtain ⟨b, q1, q2, q3⟩ := ih l[i] hx (subAdd (subAdd σ r bf) a (bg l[i])) a (allRL (l.take i) acc) (subB_add hB1 a _) (rowF_add hB1 ha _) (hokL _ (fun g hg => hsubA g (List.mem_of_mem_take hg)) _ hacc) (by have := hstep i hi; omega)
      rw [← allRL_take acc hi] at q2 q3
      exact ⟨b, fun _ => ⟨q3, q1, q2⟩, by omega, rowF_sub hB1 q2⟩
  have hr0 : RowF (subAdd σ r bf) (ρ l.length) (allRL l acc) := by have := (hI l.length (Nat.le_refl _)).2; rwa [List.take_length] at this
  have hr0le := (hI l.length (Nat.le_refl _)).1
  have haccL := hokL l hsubA acc hacc
  have hany := seen_any hA (allRL l acc) haccL
  have hkey : Ctr (C gl) 116 [encF (.mk o v l)] True (.str (keyS (.mk o v l))) := ⟨fun _ => key_ok _ hs hn⟩
  have hcp' : Ctr (C gl) 109 [encF (.mk o v l)] True (encF (.mk o v l)) := ⟨fun _ => hcp⟩
  have hg := seen_get (keyS (.mk o v l)) ((allRL l acc).map keyS)
  rw [hany] at hg
  have e3 : ∀ (ρ' : Option Nat) (a : List Fm), RowF (subAdd σ r bf) ρ' a → (subSt (subAdd σ r bf) ρ' a).get (max σ.next (rowN r)) = some (.box [.int .i64 o, .int .i64 v, .list false (encFs l)]) := fun ρ' a ha => by
    have h5 := hB.n5
    rw [subSt_get, if_neg (by omega), if_neg (by omega), if_neg, subAdd_get, if_pos rfl]
    rintro rfl
    have := ha.2.1
    rw [subAdd_get, if_pos rfl] at this; cases this
  obtain ⟨r', hr', k1, k2⟩ : ∃ r', r' = (if (allRL l acc).any (sameF (.mk o v l)) = true then ρ l.length else some (max (max σ.next (rowN r) + 1) (rowN (ρ l.length)))) ∧ rowN r ≤ rowN r' ∧ RowF (subAdd σ r bf) r' (allR (.mk o v l) acc) := by
    refine ⟨_, rfl, ?_, ?_⟩
    · split
      · exact hr0le
      · simp only [rowN]; omega
    · rw [allR]
      unfold addR
      split
      · exact hr0
      · have h5 := hB.n5
        refine ⟨by omega, ?_, by simp⟩
        have := hB1.up (max (max σ.next (rowN r) + 1) (rowN (ρ l.length))) (by show max σ.next (rowN r) + 1 ≤ _; omega)
        exact this
  refine ⟨r', k1, rowF_sub hB k2, ?_⟩
  refine callX_of b115 (by simp [Tryd.ntmps115]) ?_
  refine W.of ?_
  rw [Tryd.ntmps115]
  simp only [toK, codeOf, Tryd.f115, go_sem, seval, reduceCtorEq]
  have a1 : (subSt σ r acc).add (.box [.int .i64 o, .int .i64 v, .list false (encFs l)]) = subSt (subAdd σ r bf) r acc := subSt_add hB hr bf
  have h31 := subSt_get3 hB1 hr1
  have h41 := subSt_get4 hB1 hr1
  have e31 := e3 r acc hr1
  have hnx : (subSt σ r acc).next = max σ.next (rowN r) := rfl
  have a0 : ∀ acc, allRL [] acc = acc := fun acc => by rw [allRL]
  have H := And.intro @a1 (And.intro @h31 (And.intro @h41 (And.intro @e31 (And.intro @hnx (And.intro @e0 @a0)))))
  refine autoN ?_
  repeat' (first | (refine WK.drawF (ops := #[_, _, _, _, _, _, _, _, _]) [dq 0 1, dq 0 0, dm, dq 1 0, dq 0 0, dm, dq 0 2, dm, dm] mixed (by kernel_rfl) ?_; refine autoN ?_))
  try exact trivial
  refine rangeA (l.length) [1, 2, 3, 4, 9] [] (fun i => []) (fun i => (subSt (subAdd σ r bf) (ρ i) (allRL (l.take i) acc))) ?_ ?_
  · intro i hi
    have hx := List.getElem_mem hi
    obtain ⟨p1, p2, p3⟩ := hP i hi hi
    have hIi := (hI i (Nat.le_of_lt hi)).2
    have b1 : (subSt (subAdd σ r bf) (ρ i) (allRL (l.take i) acc)).add (.box [.int .i64 l[i].op, .int .i64 l[i].var, .list false (encFs l[i].args)]) = subSt (subAdd (subAdd σ r bf) (ρ i) (bg l[i])) (ρ i) (allRL (l.take i) acc) := subSt_add hB1 hIi (bg l[i])
    have hB2 := subB_add hB1 (ρ i) (bg l[i])
    have hI2 := rowF_add hB1 hIi (bg l[i])
    have hcx : CtrX (C gl) 115 [encF l[i]] [.ptr 4 0, .ptr 3 0, .ptr 1 0] (subSt (subAdd (subAdd σ r bf) (ρ i) (bg l[i])) (ρ i) (allRL (l.take i) acc)) True (.tup []) (subSt (subAdd (subAdd σ r bf) (ρ i) (bg l[i])) (ρ (i + 1)) (allRL (l.take (i + 1)) acc)) := ⟨fun _ => p1⟩
    have f4 := subSt_get4 hB2 hI2
    have f0 : (subSt (subAdd (subAdd σ r bf) (ρ i) (bg l[i])) (ρ i) (allRL (l.take i) acc)).get (max (subAdd σ r bf).next (rowN (ρ i))) = some (.box [.int .i64 l[i].op, .int .i64 l[i].var, .list false (encFs l[i].args)]) := by
      have h5 := hB1.n5
      rw [subSt_get, if_neg (by omega), if_neg (by omega), if_neg, subAdd_get, if_pos rfl]
      intro h
      generalize ρ i = q at h
      cases q with
      | none => cases h
      | some M => simp only [rowN, Option.some.injEq] at h; omega
    have hnx2 : (subSt (subAdd σ r bf) (ρ i) (allRL (l.take i) acc)).next = max (subAdd σ r bf).next (rowN (ρ i)) := rfl
    have H := And.intro @hi (And.intro @b1 (And.intro @f4 (And.intro @f0 @hnx2)))
    refine autoN ?_
    repeat' (first | (refine WK.drawF (ops := #[_, _, _, _, _, _, _, _, _]) [dq 0 1, dq 0 0, dm, dq 1 0, dq 0 0, dm, dq 0 2, dm, dm] mixed (by kernel_rfl) ?_; refine autoN ?_))
    try exact trivial
    exact sub_cut hB1 hIi p3 p2
  · rw [List.take_length]
    have hend := (hI l.length (Nat.le_refl _)).1
    have m2 := subSt_get2 (subAdd σ r bf) (ρ l.length) (allRL l acc)
    have m3 := subSt_get3 hB1 hr0
    have m1 := subSt_get1 (subAdd σ r bf) (ρ l.length) (allRL l acc)
    have m4 := e3 _ _ hr0
    have hsh := seen_shp ((allRL l acc).map keyS)
    have kok : KeyOK (C gl) 9 (.str (tx [])) = True := keyOK_str' (by kernel_rfl)
    cases hm : (allRL l acc).any (sameF (.mk o v l)) with
    | true =>
      rw [hm] at hr' hg
      rw [if_pos rfl] at hr'
      have er : allR (.mk o v l) acc = allRL l acc := by rw [allR]; unfold addR; rw [hm, if_pos rfl]
      rw [er, hr']
      have H := And.intro @m1 (And.intro @m2 (And.intro @m3 (And.intro @m4 (And.intro @hsh (And.intro @hg @kok)))))
      refine autoA ?_
      repeat' (first | (refine WK.drawF (ops := #[_, _, _, _, _, _, _, _, _]) [dq 0 1, dq 0 0, dm, dq 1 0, dq 0 0, dm, dq 0 2, dm, dm] mixed (by kernel_rfl) ?_; refine autoA ?_))
      try exact trivial
      exact sub_cut hB hr hr0 hr0le
    | false =>
      rw [hm] at hr' hg
      rw [if_neg Bool.false_ne_true] at hr'
      have er : allR (.mk o v l) acc = allRL l acc ++ [.mk o v l] := by rw [allR]; unfold addR; rw [hm, if_neg Bool.false_ne_true]
      rw [er]
      have hp := seen_put (k := keyS (.mk o v l)) (ks := (allRL l acc).map keyS) (by rw [hany]; exact hm)
      have h5 := hB.n5
      have ne2 : (max σ.next (rowN r) = 2) = False := by simp; omega
      have hl1000 : (allRL l acc).length < 1000000 := by omega
      generalize hρ : ρ l.length = q at m1 m2 m3 m4 hr0 hr' ⊢
      obtain ⟨M, hM⟩ : ∃ M, (subSt (subAdd σ r bf) q (allRL l acc)).next = M := ⟨_, rfl⟩
      have hM' : M = max (max σ.next (rowN r) + 1) (rowN q) := hM.symm
      have h6 : 6 ≤ M := by omega
      rw [← hM'] at hr'
      have n1 : (1 = M) = False := by simp; omega
      have n2 : (2 = M) = False := by simp; omega
      have n1' : (M = 1) = False := by simp; omega
      have n2' : (M = 2) = False := by simp; omega
      have n4 : (max σ.next (rowN r) = M) = False := by simp; omega
      have hkey2 : Cut (subSt σ r acc) (subSt (subAdd σ r bf) (some M) (allRL l acc ++ [.mk o v l])) (subSt σ r' (allRL l acc ++ [.mk o v l])) := by
        rw [← er, hr']
        rw [hr'] at k1 k2
        exact sub_cut hB hr k2 k1
      cases q with
      | none =>
        have hnil : allRL l acc = [] := hr0
        have hext : ∀ σ2 : Sto, σ2.next = max (subAdd σ r bf).next (M + 1) → (∀ i, σ2.get i = if i = M then some (.row 3 [.agg [.int .i64 o, .int .i64 v, .list false (encFs l)]] false) else if i = 1 then some (.box [.row M 0 1]) else if i = 2 then some (.mp (seenE ((allRL l acc).map keyS ++ [keyS (.mk o v l)]))) else (subSt (subAdd σ r bf) none (allRL l acc)).get i) →
            σ2 = subSt (subAdd σ r bf) (some M) (allRL l acc ++ [.mk o v l]) := fun σ2 hn hg2 => by
          refine Sto.ext' hn fun i => ?_
          rw [hg2, subSt_get (subAdd σ r bf) (some M)]
          by_cases e1 : i = M
          · subst e1
            rw [if_pos rfl, if_neg (by omega), if_neg (by omega), if_pos rfl, hnil]
            rfl
          · rw [if_neg e1]
            have e3 : ¬ some i = some M := fun h => e1 (Option.some.inj h)
            rw [if_neg e3, hnil]
            by_cases e4 : i = 1
            · rw [if_pos e4, if_pos e4]; rfl
            · rw [if_neg e4, if_neg e4]
              by_cases e5 : i = 2
              · rw [if_pos e5, if_pos e5]; rfl
              · rw [if_neg e5, if_neg e5, subSt_get, if_neg e4, if_neg e5, if_neg (by simp)]
        simp only [outV] at m1
        have H := And.intro @m1 (And.intro @m2 (And.intro @m3 (And.intro @m4 (And.intro @hsh (And.intro @hg (And.intro @kok @hp))))))
        refine autoN ?_
        try exact trivial
        refine WK.drawT 6 [dq 0 1, dq 0 0, dm, dq 1 0, dq 0 0, dm] mixed (by kernel_rfl) ?_
        simp only [List.extract_toArray, List.extract_eq_take_drop, List.drop_zero, Nat.sub_zero, List.take_succ_cons, List.take_zero]
        have H := And.intro @m1 (And.intro @m2 (And.intro @m3 (And.intro @m4 (And.intro @hsh (And.intro @hg (And.intro @kok (And.intro @hp @ne2)))))))
        refine autoN ?_
        try exact trivial
        refine appD_row (f := true) (xs := []) (ys := [.agg [.int .i64 0, .int .i64 0, .list true []]]) (by first | (simp only [go_sem, seval, reduceCtorEq]; done) | (simp only [go_sem, seval, reduceCtorEq]; rfl)) (by first | (simp only [go_sem, seval, reduceCtorEq]; done) | (simp only [go_sem, seval, reduceCtorEq]; rfl)) (fun x hx => by cases hx) (by first | (simp only [go_sem, seval, reduceCtorEq]; done) | (simp only [go_sem, seval, reduceCtorEq]; rfl)) (by first | (simp only [go_sem, seval, reduceCtorEq]; done) | (simp only [go_sem, seval, reduceCtorEq]; rfl)) ?_ (by simp) (by kernel_rfl) (by first | (simp only [go_sem, seval, reduceCtorEq, List.length_cons, List.length_nil]; done) | (simp only [go_sem, seval, reduceCtorEq, List.length_cons, List.length_nil]; omega)) (by first | (simp only [go_sem, seval, reduceCtorEq, List.length_cons, List.length_nil]; done) | (simp only [go_sem, seval, reduceCtorEq, List.length_cons, List.length_nil]; omega)) ?_
        · intro x hx
          rw [List.mem_singleton] at hx
          subst hx
          exact ⟨rfl, rfl⟩
        simp only [go_sem, seval, reduceCtorEq, List.nil_append, List.length_nil, hM]
        apply Exists.intro
        refine Exists.intro (subSt (subAdd σ r bf) (some M) (allRL l acc ++ [.mk o v l])) (And.intro ?_ hkey2)
        refine drT_step [6, 8] (by kernel_rfl) (by decide) ⟨⟨_, rfl, ?_⟩, ⟨_, rfl, ?_⟩, trivial⟩
        · simp only [roOf, go_sem, seval, reduceCtorEq, hM]
          refine drT_step [7, 8] (by kernel_rfl) (by decide) ⟨⟨_, rfl, ?_⟩, ⟨_, rfl, ?_⟩, trivial⟩
          · simp only [roOf, go_sem, seval, reduceCtorEq, hM]
            refine drT_step [8] (by kernel_rfl) (by decide) ⟨⟨_, rfl, ?_⟩, trivial⟩
            simp only [roOf, go_sem, seval, reduceCtorEq, hM, n1, n2, n1', n2', m1]
            refine drT_done (by kernel_rfl) ⟨rfl, ?_⟩
            exact hext _ (by simp only [go_sem, seval, reduceCtorEq, hM]; show M + 1 = max (max σ.next (rowN r) + 1) (M + 1); omega) (fun i => by simp only [go_sem, seval, reduceCtorEq, hM])
          · simp only [roOf, go_sem, seval, reduceCtorEq, hM, n1, n2, n1', n2', m1]
            refine drT_step [7] (by kernel_rfl) (by decide) ⟨⟨_, rfl, ?_⟩, trivial⟩
            simp only [roOf, go_sem, seval, reduceCtorEq, hM, n1, n2, n1', n2', m1]
            refine drT_done (by kernel_rfl) ⟨rfl, ?_⟩
            exact hext _ (by simp only [go_sem, seval, reduceCtorEq, hM]; show M + 1 = max (max σ.next (rowN r) + 1) (M + 1); omega) (fun i => by simp only [go_sem, seval, reduceCtorEq, hM])
        · simp only [roOf, go_sem, seval, reduceCtorEq, hM, n1, n2, n1', n2', m1]
          refine drT_step [6] (by kernel_rfl) (by decide) ⟨⟨_, rfl, ?_⟩, trivial⟩
          simp only [roOf, go_sem, seval, reduceCtorEq, hM, n1, n2, n1', n2', m1]
          refine drT_step [7] (by kernel_rfl) (by decide) ⟨⟨_, rfl, ?_⟩, trivial⟩
          simp only [roOf, go_sem, seval, reduceCtorEq, hM, n1, n2, n1', n2', m1]
          refine drT_done (by kernel_rfl) ⟨rfl, ?_⟩
          exact hext _ (by simp only [go_sem, seval, reduceCtorEq, hM]; show M + 1 = max (max σ.next (rowN r) + 1) (M + 1); omega) (fun i => by simp only [go_sem, seval, reduceCtorEq, hM])
      | some N =>
        simp only [outV] at m1
        have hN5 := hr0.1
        have hNM : N < M := by simp only [rowN] at hM'; omega
        have mN : (subSt (subAdd σ r bf) (some N) (allRL l acc)).get N = some (.row 3 (encFs (allRL l acc)) false) := by
          rw [subSt_get, if_neg (by omega), if_neg (by omega), if_pos rfl]
        have q1 : (N = 2) = False := by simp; omega
        have q2 : (N = 1) = False := by simp; omega
        have q3 : (1 = N) = False := by simp; omega
        have q4 : (2 = N) = False := by simp; omega
        have q5 : (M = N) = False := by simp; omega
        have hone : ∀ x ∈ encFs (allRL l acc), x.cells.all AV.one = true := fun x hx => by
          obtain ⟨g, _, rfl⟩ := encFs_mem hx
          rw [encF_eq]; rfl
        have hext : ∀ σ2 : Sto, σ2.next = max (subAdd σ r bf).next (M + 1) → (∀ i, σ2.get i = if i = M then some (.row 3 (encFs (allRL l acc) ++ [.agg [.int .i64 o, .int .i64 v, .list false (encFs l)]]) false) else if i = 1 then some (.box [.row M 0 ((allRL l acc).length + 1)]) else if i = N then none else if i = 2 then some (.mp (seenE ((allRL l acc).map keyS ++ [keyS (.mk o v l)]))) else (subSt (subAdd σ r bf) (some N) (allRL l acc)).get i) →
            σ2 = subSt (subAdd σ r bf) (some M) (allRL l acc ++ [.mk o v l]) := fun σ2 hn hg2 => by
          refine Sto.ext' hn fun i => ?_
          rw [hg2, subSt_get (subAdd σ r bf) (some M)]
          by_cases e1 : i = M
          · subst e1
            rw [if_pos rfl, if_neg (by omega), if_neg (by omega), if_pos rfl, encFs_snoc, encF_eq]
            rfl
          · rw [if_neg e1]
            have e3 : ¬ some i = some M := fun h => e1 (Option.some.inj h)
            rw [if_neg e3]
            by_cases e4 : i = 1
            · rw [if_pos e4, if_pos e4]; simp [outV]
            · rw [if_neg e4, if_neg e4]
              by_cases e6 : i = N
              · rw [if_pos e6, if_neg (by omega), e6]
                have := hr0.2.1
                exact this.symm
              · rw [if_neg e6]
                by_cases e5 : i = 2
                · rw [if_pos e5, if_pos e5]; simp
                · rw [if_neg e5, if_neg e5, subSt_get, if_neg e4, if_neg e5, if_neg (fun h => e6 (Option.some.inj h))]
        have H := And.intro @m1 (And.intro @m2 (And.intro @m3 (And.intro @m4 (And.intro @hsh (And.intro @hg (And.intro @kok @hp))))))
        refine autoN ?_
        try exact trivial
        refine WK.drawT 6 [dq 0 1, dq 0 0, dm, dq 1 0, dq 0 0, dm] mixed (by kernel_rfl) ?_
        simp only [List.extract_toArray, List.extract_eq_take_drop, List.drop_zero, Nat.sub_zero, List.take_succ_cons, List.take_zero]
        have H := And.intro @m1 (And.intro @m2 (And.intro @m3 (And.intro @m4 (And.intro @hsh (And.intro @hg (And.intro @kok (And.intro @hp @ne2)))))))
        refine autoN ?_
        try exact trivial
        refine appD_rr (f := true) (id := N) (es := 3) (n := (allRL l acc).length) (xs := encFs (allRL l acc)) (ys := [.agg [.int .i64 0, .int .i64 0, .list true []]]) (by first | (simp only [go_sem, seval, reduceCtorEq]; done) | (simp only [go_sem, seval, reduceCtorEq]; rfl)) (by first | (simp only [go_sem, seval, reduceCtorEq]; done) | (simp only [go_sem, seval, reduceCtorEq]; rfl)) (by simp only [go_sem, seval, reduceCtorEq, q1, mN]) (by first | (simp only [go_sem, seval, reduceCtorEq]; done) | (simp only [go_sem, seval, reduceCtorEq]; rfl)) (by rw [encFs_len]) hone (by first | (simp only [go_sem, seval, reduceCtorEq]; done) | (simp only [go_sem, seval, reduceCtorEq]; rfl)) (by first | (simp only [go_sem, seval, reduceCtorEq]; done) | (simp only [go_sem, seval, reduceCtorEq]; rfl)) ?_ (by kernel_rfl) (by first | (simp only [go_sem, seval, reduceCtorEq, List.length_cons, List.length_nil]; done) | (simp only [go_sem, seval, reduceCtorEq, List.length_cons, List.length_nil]; omega)) (by first | (simp only [go_sem, seval, reduceCtorEq, List.length_cons, List.length_nil]; done) | (simp only [go_sem, seval, reduceCtorEq, List.length_cons, List.length_nil]; omega)) ?_
        · intro x hx
          rw [List.mem_singleton] at hx
          subst hx
          exact ⟨rfl, rfl⟩
        have hgA : (encFs (allRL l acc) ++ [AV.agg [.int .i64 0, .int .i64 0, .list true []]]).getD (allRL l acc).length .undef = .agg [.int .i64 0, .int .i64 0, .list true []] := by
          rw [List.getD_eq_getElem?_getD, List.getElem?_append_right (by rw [encFs_len]; exact Nat.le_refl _), encFs_len, Nat.sub_self]; rfl
        have hsA : ∀ y, (encFs (allRL l acc) ++ [AV.agg [.int .i64 0, .int .i64 0, .list true []]]).set (allRL l acc).length y = encFs (allRL l acc) ++ [y] := fun y => by
          rw [List.set_append_right _ _ (by rw [encFs_len]; exact Nat.le_refl _), encFs_len, Nat.sub_self]; rfl
        have hlA : (encFs (allRL l acc) ++ [AV.agg [.int .i64 0, .int .i64 0, .list true []]]).length = (allRL l acc).length + 1 := by
          rw [List.length_append, encFs_len]; rfl
        simp only [go_sem, seval, reduceCtorEq, hM]
        apply Exists.intro
        refine Exists.intro (subSt (subAdd σ r bf) (some M) (allRL l acc ++ [.mk o v l])) (And.intro ?_ hkey2)
        refine drT_step [6, 8] (by kernel_rfl) (by decide) ⟨⟨_, rfl, ?_⟩, ⟨_, rfl, ?_⟩, trivial⟩
        · simp only [roOf, go_sem, seval, reduceCtorEq, hM, hgA, hsA, hlA, n1, n2, n1', n2', q1, q2, q3, q4, q5, m1]
          refine ⟨⟨by omega, by omega⟩, ?_⟩
          refine drT_step [7, 8] (by kernel_rfl) (by decide) ⟨⟨_, rfl, ?_⟩, ⟨_, rfl, ?_⟩, trivial⟩
          · simp only [roOf, go_sem, seval, reduceCtorEq, hM, hgA, hsA, hlA, n1, n2, n1', n2', q1, q2, q3, q4, q5, m1]
            refine ⟨by omega, ?_⟩
            refine drT_step [8] (by kernel_rfl) (by decide) ⟨⟨_, rfl, ?_⟩, trivial⟩
            simp only [roOf, go_sem, seval, reduceCtorEq, hM, hgA, hsA, hlA, n1, n2, n1', n2', q1, q2, q3, q4, q5, m1]
            refine drT_done (by kernel_rfl) ⟨rfl, ?_⟩
            exact hext _ (by simp only [go_sem, seval, reduceCtorEq, hM]; show M + 1 = max (max σ.next (rowN r) + 1) (M + 1); omega) (fun i => by simp only [go_sem, seval, reduceCtorEq, hM])
          · simp only [roOf, go_sem, seval, reduceCtorEq, hM, hgA, hsA, hlA, n1, n2, n1', n2', q1, q2, q3, q4, q5, m1]
            refine drT_step [7] (by kernel_rfl) (by decide) ⟨⟨_, rfl, ?_⟩, trivial⟩
            simp only [roOf, go_sem, seval, reduceCtorEq, hM, hgA, hsA, hlA, n1, n2, n1', n2', q1, q2, q3, q4, q5, m1]
            refine ⟨by omega, ?_⟩
            refine drT_done (by kernel_rfl) ⟨rfl, ?_⟩
            exact hext _ (by simp only [go_sem, seval, reduceCtorEq, hM]; show M + 1 = max (max σ.next (rowN r) + 1) (M + 1); omega) (fun i => by simp only [go_sem, seval, reduceCtorEq, hM])
        · simp only [roOf, go_sem, seval, reduceCtorEq, hM, hgA, hsA, hlA, n1, n2, n1', n2', q1, q2, q3, q4, q5, m1]
          refine drT_step [6] (by kernel_rfl) (by decide) ⟨⟨_, rfl, ?_⟩, trivial⟩
          simp only [roOf, go_sem, seval, reduceCtorEq, hM, hgA, hsA, hlA, n1, n2, n1', n2', q1, q2, q3, q4, q5, m1]
          refine ⟨⟨by omega, by omega⟩, ?_⟩
          refine drT_step [7] (by kernel_rfl) (by decide) ⟨⟨_, rfl, ?_⟩, trivial⟩
          simp only [roOf, go_sem, seval, reduceCtorEq, hM, hgA, hsA, hlA, n1, n2, n1', n2', q1, q2, q3, q4, q5, m1]
          refine ⟨by omega, ?_⟩
          refine drT_done (by kernel_rfl) ⟨rfl, ?_⟩
          exact hext _ (by simp only [go_sem, seval, reduceCtorEq, hM]; show M + 1 = max (max σ.next (rowN r) + 1) (M + 1); omega) (fun i => by simp only [go_sem, seval, reduceCtorEq, hM])
end
end Go.Sx

set_option maxRecDepth 100000
set_option maxHeartbeats 4000000
set_option linter.unusedSimpArgs false
set_option linter.unusedVariables false
set_option linter.unnecessarySimpa false
namespace Go.Sx
open Go Go.Lg Go.Proofs
theorem allR_ne (f : Fm) (acc : List Fm) : allR f acc ≠ [] := by
  obtain ⟨o, v, l⟩ := f
  rw [allR]
  unfold addR
  split
  · rename_i h
    intro e
    rw [e] at h; cases h
  · simp
section
variable {gl : GL}
theorem subs_all (f : Fm) : okA f → ShorF f → nN f < 1000000 → SubOK gl f := by
  induction f using Fm.ind with
  | h o v l ih =>
    intro hA hs hn
    refine subs_k o v l hA (shrt_of_shor _ hs) hs.1 hn (copy_ok _ hs) fun g hg => ih g hg (okA_sub hA hg) (hs.2.mem g hg) ?_
    have : nN g ≤ (nodesL l).length := by
      obtain ⟨a, b, rfl⟩ := List.append_of_mem hg
      rw [nodesL_app, nodesL, List.length_append]
      unfold nN; omega
    have hnn : nN (.mk o v l) = (nodesL l).length + 1 := by simp [nN, nodesF]
    omega
def sub0 (f : Fm) : Sto := ((((Sto.none.add (.box [.int .i64 f.op, .int .i64 f.var, .list false (encFs f.args)])).add (.box [.list true []])).add (.mp [])).add (.box [.map 2])).add (.box [.fn 115 [.ptr 4 0, .ptr 3 0, .ptr 1 0]])
theorem sub0_get (f : Fm) (i : Nat) : (sub0 f).get i = if i = 4 then some (.box [.fn 115 [.ptr 4 0, .ptr 3 0, .ptr 1 0]]) else if i = 3 then some (.box [.map 2]) else if i = 2 then some (.mp []) else if i = 1 then some (.box [.list true []]) else if i = 0 then some (.box [.int .i64 f.op, .int .i64 f.var, .list false (encFs f.args)]) else none := (rfl)
theorem sub0_eq (f : Fm) : sub0 f = subSt (sub0 f) none [] := by
  refine Sto.ext' (by rfl) fun i => ?_
  rw [subSt_get, sub0_get]
  by_cases e1 : i = 1
  · subst e1; rfl
  rw [if_neg e1]
  by_cases e2 : i = 2
  · subst e2; rfl
  rw [if_neg e2, if_neg e1, if_neg e2]
  simp
theorem sub0_B (f : Fm) : SubB (sub0 f) := by
  refine ⟨Nat.le_refl _, rfl, rfl, fun i hi => ?_⟩
  have hi : 5 ≤ i := hi
  rw [sub0_get, if_neg (by omega), if_neg (by omega), if_neg (by omega), if_neg (by omega), if_neg (by omega)]
theorem wSubs_ok (har : gl.at' 0 = arityA) (f : Fm) (hs : Shrt f) : PCall (C gl) 53 [encF f] (.tup [.list false (encFs (subS f).1), .int .i64 (subS f).2]) := by
  have hva : Ctr (C gl) 98 [encF f] True (.bool (validF f 6)) := ⟨fun _ => valid6_ok har f hs⟩
  refine pcallX (callX_of b53 (by simp [Tryd.ntmps53]) ?_) (by simp only [AllCl, cl_encF, and_true]) (by simp only [cl_tup, AllCl, cl_list, clE_encFs, cl_int, and_true])
  refine W.of ?_
  rw [Tryd.ntmps53]
  simp only [toK, codeOf, Tryd.f53, go_sem, seval, reduceCtorEq]
  cases hv : validF f 6 with
  | false =>
    rw [show subS f = ([], 1) by unfold subS; rw [hv]; rfl]
    try simp only [go_sem, seval, reduceCtorEq, hv]
    repeat' (first | refine WK.blockSeq ?_ | refine WK.blockCond ?_ | refine WK.blockReg ?_ | (refine WK.condT ?_ ?_; (focus (simp only [go_sem, seval, reduceCtorEq, hv]; done))) | (refine WK.condF ?_ ?_; (focus (simp only [go_sem, seval, reduceCtorEq, hv]; done))) | refine WK.seq ?_ | ((first | refine WK.reg ?_ | refine WK.skip ?_ | refine WK.ret ?_ | refine WK.exit ?_); simp only [go_sem, seval, reduceCtorEq, hv]) | (refine callK_ofN ?_; simp only [go_sem, seval, reduceCtorEq, hv, encF_fold, encF_fold0, Fm.eta, encFs_fold1, encFs_fold2, encFs_fold3]; (first | refine callN_auto ?_ ?_ | refine callN_autoX ?_ ?_); rotate_left; (try simp only [go_sem, seval, reduceCtorEq, hv]); rotate_right; (try (focus (first | assumption | ((repeat (with_reducible refine And.intro ?_ ?_)) <;> first | exact trivial | assumption | exact List.getElem_mem _ | omega | (simp only [go_sem, seval, reduceCtorEq, hv]; first | done | omega) | (simp only [List.mem_cons, true_or, or_true]; done)))))) | (refine callD_ofN ?_; simp only [go_sem, seval, reduceCtorEq, hv, encF_fold, encF_fold0, Fm.eta, encFs_fold1, encFs_fold2, encFs_fold3]; (first | refine callDN_auto ?_ ?_ | refine callDN_autoX ?_ ?_); rotate_left; (try simp only [go_sem, seval, reduceCtorEq, hv]); rotate_right; (try (focus (first | assumption | ((repeat (with_reducible refine And.intro ?_ ?_)) <;> first | exact trivial | assumption | exact List.getElem_mem _ | omega | (simp only [go_sem, seval, reduceCtorEq, hv]; first | done | omega) | (simp only [List.mem_cons, true_or, or_true]; done)))))) | ((with_reducible refine And.intro ?_ ?_); (focus (first | assumption | ((repeat (with_reducible refine And.intro ?_ ?_)) <;> first | exact trivial | assumption | exact List.getElem_mem _ | omega | (simp only [go_sem, seval, reduceCtorEq, hv]; first | done | omega) | (simp only [List.mem_cons, true_or, or_true]; done))))) | omega)
    first | exact cut_none _ | (refine ⟨le_of_nz ?_, cut_none _⟩; first | (simp only [go_sem, seval, reduceCtorEq, encFs, encF_fold, encF_fold0, Fm.eta, encFs_fold1, encFs_fold2, encFs_fold3]; done) | (simp only [go_sem, seval, reduceCtorEq, encFs, encF_fold, encF_fold0, Fm.eta, encFs_fold1, encFs_fold2, encFs_fold3]; rfl))
  | true =>
    obtain ⟨hsh, hA⟩ := valid_both hv
    have hn : nN f ≤ 60 := ((validF_iff f 6).1 hv).2.2.1
    rw [show subS f = (allR f [], (0 : Int)) by unfold subS; rw [hv]; rfl]
    obtain ⟨r', _, hr', hcall⟩ := subs_all (gl := gl) f hA hsh (by omega) (sub0 f) none [] (sub0_B f) rfl (fun g hg => by cases hg) (by simp only [List.length_nil]; omega)
    rw [← sub0_eq] at hcall
    cases r' with
    | none => exact absurd hr' (allR_ne f [])
    | some N =>
      have hN5 := hr'.1
      have g1 := subSt_get1 (sub0 f) (some N) (allR f [])
      simp only [outV] at g1
      have gN : (subSt (sub0 f) (some N) (allR f [])).get N = some (.row 3 (encFs (allR f [])) false) := by
        rw [subSt_get, if_neg (by omega), if_neg (by omega), if_pos rfl]
      have e0 : ((((Sto.none.add (.box [.int .i64 f.op, .int .i64 f.var, .list false (encFs f.args)])).add (.box [.list true []])).add (.mp [])).add (.box [.map 2])).add (.box [.fn 115 [.ptr 4 0, .ptr 3 0, .ptr 1 0]]) = sub0 f := rfl
      have z4 : (sub0 f).get 4 = some (.box [.fn 115 [.ptr 4 0, .ptr 3 0, .ptr 1 0]]) := rfl
      have z0 : (sub0 f).get 0 = some (.box [.int .i64 f.op, .int .i64 f.var, .list false (encFs f.args)]) := rfl
      try simp only [go_sem, seval, reduceCtorEq, hv, e0, g1, z4, z0]
      repeat' (first | refine WK.blockSeq ?_ | refine WK.blockCond ?_ | refine WK.blockReg ?_ | (refine WK.condT ?_ ?_; (focus (simp only [go_sem, seval, reduceCtorEq, hv, e0, g1, z4, z0]; done))) | (refine WK.condF ?_ ?_; (focus (simp only [go_sem, seval, reduceCtorEq, hv, e0, g1, z4, z0]; done))) | refine WK.seq ?_ | ((first | refine WK.reg ?_ | refine WK.skip ?_ | refine WK.ret ?_ | refine WK.exit ?_); simp only [go_sem, seval, reduceCtorEq, hv, e0, g1, z4, z0]) | (refine callK_ofN ?_; simp only [go_sem, seval, reduceCtorEq, hv, e0, g1, z4, z0, encF_fold, encF_fold0, Fm.eta, encFs_fold1, encFs_fold2, encFs_fold3]; (first | refine callN_auto ?_ ?_ | refine callN_autoX ?_ ?_); rotate_left; (try simp only [go_sem, seval, reduceCtorEq, hv, e0, g1, z4, z0]); rotate_right; (try (focus (first | assumption | ((repeat (with_reducible refine And.intro ?_ ?_)) <;> first | exact trivial | assumption | exact List.getElem_mem _ | omega | (simp only [go_sem, seval, reduceCtorEq, hv, e0, g1, z4, z0]; first | done | omega) | (simp only [List.mem_cons, true_or, or_true]; done)))))) | (refine callD_ofN ?_; simp only [go_sem, seval, reduceCtorEq, hv, e0, g1, z4, z0, encF_fold, encF_fold0, Fm.eta, encFs_fold1, encFs_fold2, encFs_fold3]; (first | refine callDN_auto ?_ ?_ | refine callDN_autoX ?_ ?_); rotate_left; (try simp only [go_sem, seval, reduceCtorEq, hv, e0, g1, z4, z0]); rotate_right; (try (focus (first | assumption | ((repeat (with_reducible refine And.intro ?_ ?_)) <;> first | exact trivial | assumption | exact List.getElem_mem _ | omega | (simp only [go_sem, seval, reduceCtorEq, hv, e0, g1, z4, z0]; first | done | omega) | (simp only [List.mem_cons, true_or, or_true]; done)))))) | ((with_reducible refine And.intro ?_ ?_); (focus (first | assumption | ((repeat (with_reducible refine And.intro ?_ ?_)) <;> first | exact trivial | assumption | exact List.getElem_mem _ | omega | (simp only [go_sem, seval, reduceCtorEq, hv, e0, g1, z4, z0]; first | done | omega) | (simp only [List.mem_cons, true_or, or_true]; done))))) | omega)
      refine callK_x hcall rfl (by simp only [go_sem, seval, reduceCtorEq]) ?_ ?_
      · simp only [go_sem, seval, reduceCtorEq, encF_eq]
      simp only [go_sem, seval, reduceCtorEq]
      refine WK.freeze N gN ?_
      have g1' : ((subSt (sub0 f) (some N) (allR f [])).frz N (encFs (allR f []))).get 1 = some (.box [.list false (encFs (allR f []))]) := by
        have n1N : ¬ 1 = N := by omega
        rw [Sto.get_frz, if_neg n1N, g1]
        simp only [List.map_cons, List.map_nil, frz1, encFs_len, Nat.zero_add, Nat.le_refl, if_true, List.drop_zero]
        rw [List.take_of_length_le (by rw [encFs_len]; exact Nat.le_refl _)]
      try simp only [go_sem, seval, reduceCtorEq, g1']
      repeat' (first | refine WK.blockSeq ?_ | refine WK.blockCond ?_ | refine WK.blockReg ?_ | (refine WK.condT ?_ ?_; (focus (simp only [go_sem, seval, reduceCtorEq, g1']; done))) | (refine WK.condF ?_ ?_; (focus (simp only [go_sem, seval, reduceCtorEq, g1']; done))) | refine WK.seq ?_ | ((first | refine WK.reg ?_ | refine WK.skip ?_ | refine WK.ret ?_ | refine WK.exit ?_); simp only [go_sem, seval, reduceCtorEq, g1']) | (refine callK_ofN ?_; simp only [go_sem, seval, reduceCtorEq, g1', encF_fold, encF_fold0, Fm.eta, encFs_fold1, encFs_fold2, encFs_fold3]; (first | refine callN_auto ?_ ?_ | refine callN_autoX ?_ ?_); rotate_left; (try simp only [go_sem, seval, reduceCtorEq, g1']); rotate_right; (try (focus (first | assumption | ((repeat (with_reducible refine And.intro ?_ ?_)) <;> first | exact trivial | assumption | exact List.getElem_mem _ | omega | (simp only [go_sem, seval, reduceCtorEq, g1']; first | done | omega) | (simp only [List.mem_cons, true_or, or_true]; done)))))) | (refine callD_ofN ?_; simp only [go_sem, seval, reduceCtorEq, g1', encF_fold, encF_fold0, Fm.eta, encFs_fold1, encFs_fold2, encFs_fold3]; (first | refine callDN_auto ?_ ?_ | refine callDN_autoX ?_ ?_); rotate_left; (try simp only [go_sem, seval, reduceCtorEq, g1']); rotate_right; (try (focus (first | assumption | ((repeat (with_reducible refine And.intro ?_ ?_)) <;> first | exact trivial | assumption | exact List.getElem_mem _ | omega | (simp only [go_sem, seval, reduceCtorEq, g1']; first | done | omega) | (simp only [List.mem_cons, true_or, or_true]; done)))))) | ((with_reducible refine And.intro ?_ ?_); (focus (first | assumption | ((repeat (with_reducible refine And.intro ?_ ?_)) <;> first | exact trivial | assumption | exact List.getElem_mem _ | omega | (simp only [go_sem, seval, reduceCtorEq, g1']; first | done | omega) | (simp only [List.mem_cons, true_or, or_true]; done))))) | omega)
      exact cut_none _
end
end Go.Sx
