import Derived.Test.YtndchmmclfidgaaDoorTkW
import Derived.Test.YtndchmmclfidgaaDoorTrD
set_option maxRecDepth 100000
set_option linter.unusedSimpArgs false
set_option linter.unusedVariables false
namespace Go.Sx
open Go Go.Lg Go.Proofs
/-! ## What the nodes of a formula are, in order, tells which formula it is -/
def ovs (l : List Fm) : List (Int × Int) := l.map fun x => (x.op, x.var)
theorem ovs_app (a b : List Fm) : ovs (a ++ b) = ovs a ++ ovs b := List.map_append
theorem ok_len {o v : Int} {l : List Fm} (h : okA (.mk o v l)) : (l.length : Int) = arityL.getD o.toNat 0 := by
  have hok := h _ (nodes_self _)
  rw [okNode_eq] at hok
  simp only [Bool.and_eq_true, decide_eq_true_eq] at hok
  exact hok.1.2
theorem pre_inj (f : Fm) : okA f → ∀ (g : Fm) (r s : List (Int × Int)), okA g → ovs (nodesF f) ++ r = ovs (nodesF g) ++ s → f = g ∧ r = s := by
  induction f using Fm.ind with
  | h o v l ih =>
    intro hA g r s hB h
    obtain ⟨o', v', l'⟩ := g
    simp only [nodesF, ovs, List.map_cons, List.cons_append, List.cons.injEq, fm_op, fm_var, Prod.mk.injEq] at h
    obtain ⟨⟨rfl, rfl⟩, h⟩ := h
    have hlen : l.length = l'.length := by
      have h1 := ok_len hA
      have h2 := ok_len hB
      omega
    have key : ∀ (m m' : List Fm) (r s : List (Int × Int)), (∀ x ∈ m, x ∈ l) → (∀ x ∈ m', x ∈ l') → m.length = m'.length → ovs (nodesL m) ++ r = ovs (nodesL m') ++ s → m = m' ∧ r = s := by
      intro m
      induction m with
      | nil =>
        intro m' r s _ _ hl h
        cases m' with
        | nil => exact ⟨rfl, h⟩
        | cons _ _ => cases hl
      | cons x m ih2 =>
        intro m' r s hm hm' hl h
        cases m' with
        | nil => cases hl
        | cons y m' =>
          simp only [nodesL, ovs_app, List.append_assoc] at h
          obtain ⟨rfl, h2⟩ := ih x (hm x (by simp)) (okA_sub hA (hm x (by simp))) y _ _ (okA_sub hB (hm' y (by simp))) h
          obtain ⟨rfl, h3⟩ := ih2 m' r s (fun z hz => hm z (List.mem_cons_of_mem _ hz)) (fun z hz => hm' z (List.mem_cons_of_mem _ hz)) (by simpa using hl) h2
          exact ⟨rfl, h3⟩
    obtain ⟨rfl, h4⟩ := key l l' r s (fun x hx => hx) (fun x hx => hx) hlen h
    exact ⟨rfl, h4⟩
theorem ovs_inj {f g : Fm} (hf : okA f) (hg : okA g) (h : ovs (nodesF f) = ovs (nodesF g)) : f = g := (pre_inj f hf g [] [] hg (by rw [h])).1
/-! ## Keys -/
def u8n (n : Int) : UInt8 := UInt8.ofNat (IntKind.u8.wrap (IntKind.i64.wrap n)).toNat
def keyU (l : List Fm) : List UInt8 := l.flatMap fun x => [u8n (97 + x.op), u8n (65 + x.var)]
theorem byA_data : ∀ (xs : List AV) (r : ByteArray), ((xs.map AV.theI).foldl (fun r n => r.push (UInt8.ofNat n.toNat)) r).data.toList = r.data.toList ++ xs.map fun x => UInt8.ofNat x.theI.toNat
  | [], r => by simp
  | x :: xs, r => by
    rw [List.map_cons, List.foldl_cons, byA_data xs, List.map_cons]
    simp [ByteArray.data_push]
theorem keyS_data (f : Fm) : (keyS f).data.toList = keyU (nodesF f) := by
  have h := byA_data (keyB (nodesF f)) ByteArray.empty
  have e : ∀ l : List Fm, (keyB l).map (fun x => UInt8.ofNat x.theI.toNat) = keyU l := by
    intro l
    induction l with
    | nil => rfl
    | cons x l ih =>
      simp only [keyB, keyU, List.flatMap_cons, List.map_append] at ih ⊢
      rw [ih]; rfl
  rw [e] at h
  exact h.trans (List.nil_append _)
theorem u8n_val {n : Int} (h0 : 0 ≤ n) (h1 : n ≤ 255) : (u8n n).toNat = n.toNat := by
  unfold u8n
  have e1 : IntKind.i64.wrap n = n := wrap64 (by omega) (by omega)
  have e2 : IntKind.u8.wrap n = n := by
    unfold IntKind.wrap
    show (if (false && _) = true then _ else n % 256) = n
    simp only [Bool.false_and, Bool.false_eq_true, if_false]
    omega
  rw [e1, e2, UInt8.toNat_ofNat']
  omega
theorem ok_rng {x : Fm} (h : okNode 6 x = true) : (0 ≤ x.op ∧ x.op ≤ 13) ∧ 0 ≤ x.var ∧ x.var < 6 := by
  obtain ⟨o, v, l⟩ := x
  rw [okNode_eq] at h
  simp only [Bool.and_eq_true, decide_eq_true_eq] at h
  obtain ⟨⟨⟨h1, h2⟩, _⟩, h3⟩ := h
  refine ⟨⟨h1, h2⟩, ?_⟩
  simp only [fm_var]
  split at h3
  · simp only [Bool.and_eq_true, decide_eq_true_eq] at h3; exact h3
  · have := of_decide_eq_true h3; omega
theorem keyU_inj : ∀ (l m : List Fm), (∀ x ∈ l, okNode 6 x = true) → (∀ x ∈ m, okNode 6 x = true) → keyU l = keyU m → ovs l = ovs m
  | [], [], _, _, _ => rfl
  | [], y :: m, _, _, h => by simp [keyU] at h
  | x :: l, [], _, _, h => by simp [keyU] at h
  | x :: l, y :: m, hl, hm, h => by
    simp only [keyU, List.flatMap_cons, List.cons_append, List.nil_append, List.cons.injEq] at h
    obtain ⟨h1, h2, h3⟩ := h
    have kx := ok_rng (hl x (by simp))
    have ky := ok_rng (hm y (by simp))
    have a1 := congrArg UInt8.toNat h1
    have a2 := congrArg UInt8.toNat h2
    rw [u8n_val (by omega) (by omega), u8n_val (by omega) (by omega)] at a1 a2
    have ih := keyU_inj l m (fun z hz => hl z (List.mem_cons_of_mem _ hz)) (fun z hz => hm z (List.mem_cons_of_mem _ hz)) h3
    unfold ovs at ih ⊢
    rw [List.map_cons, List.map_cons, ih]
    congr 2
    · omega
    · omega
theorem keyS_inj {f g : Fm} (hf : okA f) (hg : okA g) (h : keyS f = keyS g) : f = g := by
  refine ovs_inj hf hg (keyU_inj _ _ hf hg ?_)
  rw [← keyS_data, ← keyS_data, h]
/-- A key was seen where the formula stands in the list. -/
theorem seen_any {f : Fm} (hf : okA f) : ∀ out : List Fm, (∀ g ∈ out, okA g) → ((out.map keyS).any fun x => keyS f == x) = out.any (sameF f)
  | [], _ => rfl
  | g :: out, h => by
    rw [List.map_cons, List.any_cons, List.any_cons, seen_any hf out fun x hx => h x (List.mem_cons_of_mem _ hx)]
    congr 1
    cases hs : sameF f g with
    | true =>
      rw [(sameF_iff f g).1 hs]
      exact ba_beq.2 rfl
    | false =>
      refine Bool.eq_false_iff.2 fun hk => ?_
      have := keyS_inj hf (h g List.mem_cons_self) (ba_beq.1 hk)
      rw [this, sameF_self] at hs
      cases hs
theorem okA_allR (f : Fm) : okA f → ∀ acc, (∀ g ∈ acc, okA g) → ∀ g ∈ allR f acc, okA g := by
  induction f using Fm.ind with
  | h o v l ih =>
    intro hA acc hacc
    have hl : ∀ l' : List Fm, (∀ g ∈ l', g ∈ l) → ∀ acc, (∀ g ∈ acc, okA g) → ∀ g ∈ allRL l' acc, okA g := by
      intro l'
      induction l' with
      | nil => intro _ acc h g hg; rw [allRL] at hg; exact h g hg
      | cons x l' ih2 =>
        intro hm acc h g hg
        rw [allRL] at hg
        exact ih2 (fun z hz => hm z (List.mem_cons_of_mem _ hz)) _ (ih x (hm x (by simp)) (okA_sub hA (hm x (by simp))) acc h) g hg
    intro g hg
    rw [allR] at hg
    unfold addR at hg
    split at hg
    · exact hl l (fun x hx => hx) acc hacc g hg
    · rcases List.mem_append.1 hg with hg | hg
      · exact hl l (fun x hx => hx) acc hacc g hg
      · rw [List.mem_singleton] at hg; rw [hg]; exact hA
end Go.Sx
