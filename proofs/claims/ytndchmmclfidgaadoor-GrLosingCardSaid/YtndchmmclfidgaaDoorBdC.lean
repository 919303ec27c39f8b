import Derived.Test.YtndchmmclfidgaaDoorBdB
set_option maxRecDepth 100000
set_option linter.unusedSimpArgs false
set_option linter.unusedVariables false
set_option linter.unnecessarySimpa false
namespace Go.Sx
open Go Go.Lg Go.Proofs Go.ChangeShapes Go.WideShapes Go.RowKit
open Go.Proofs.YtndchmmclfidgaaDoor

/-! ## Lists, as they come in -/
section
variable {H : Type} {enc : TypeId × Value → H} {W : World} {spare : Nat → Bool} {held : Bool}
theorem rd_slice {α : Type} [Inhabited α] {ts e n : Nat} (und : Tryd.prog.underlying ts = some (.slice e)) (hc : Tryd.prog.cellsOf e = n) (hn : 0 < n) (ea : α → AV) (Q : α → Prop) (hlen : ∀ a, (ea a).cells.length = n)
    (rd : ∀ (m : Nat) (cs : List Value) (x : DataW H × List MemPlace), DataW.trod enc Tryd.prog W 0 spare held m e cs = some x → Wt e x.1 → ∃ a, Q a ∧ Fits (G0 W) (ea a).cells cs) :
    ∀ (m : Nat) (cs : List Value) (x : DataW H × List MemPlace), DataW.trod enc Tryd.prog W 0 spare held m ts cs = some x → Wt ts x.1 →
      ∃ (l : List α) (v : Value), cs = [v] ∧ (∀ a ∈ l, Q a) ∧ l.length * Tryd.prog.bytesOf e ≤ reachBytes ∧ Rep (G0 W) (.list false (l.map ea)) v := by
  intro m cs x h hw
  rcases DataW.trod_slice und h with ⟨rfl, _⟩ | ⟨a, len, cap, elems, rest, m', rfl, rfl, rfl, hb, hlc, hcm, hel, hE, _, _⟩
  · exact ⟨[], _, rfl, (fun a ha => by cases ha), by simp, .list0 false _ _ (fun e => by cases e)⟩
  · rw [hc] at hE
    have hw' := hw
    unfold Wt at hw'
    simp only [DataW.weights, und, List.mem_cons, List.mem_append] at hw'
    have h1 := hw' _ (.inl rfl)
    rw [List.length_map, List.length_map, Nat.add_mul, hel] at h1
    have hwe : ∀ d ∈ elems.map (·.1), Wt e d := fun d hd n hn => hw' n (.inr (.inl (weightsAll_mem hn _ hd)))
    have key : ∀ i, i < len → ∃ p : α × List Value, W.cells? 0 (a.add (i * n)) n = some p.2 ∧ Q p.1 ∧ Fits (G0 W) (ea p.1).cells p.2 := by
      intro i hi
      have e := hE i hi
      rw [List.getElem?_eq_getElem (by omega)] at e
      obtain ⟨cs', h1, h2⟩ := Option.bind_eq_some_iff.1 e
      obtain ⟨f, g1, g2⟩ := rd _ _ _ h2 (hwe _ (List.mem_map_of_mem (List.getElem_mem (by omega))))
      exact ⟨(f, cs'), h1, g1, g2⟩
    obtain ⟨F, hF⟩ := choose_fm key
    by_cases hl0 : len = 0
    · subst hl0
      exact ⟨[], _, rfl, (fun a ha => by cases ha), by simp, .list0 false _ _ (fun e => by cases e)⟩
    have hspot : a.spot = none := by
      have h0 := hF 0 (by omega)
      obtain ⟨_, _, g⟩ := World.cells?_some h0.1
      have g0 := g 0 hn
      have hl := h0.2.2.1
      rw [hlen] at hl
      rw [List.getElem?_eq_getElem (by omega)] at g0
      simp only [Nat.zero_mul, Addr.add, if_true] at g0
      unfold World.cell? at g0
      split at g0
      · split at g0
        · cases g0
        · rename_i hs; simpa using hs
      · cases g0
    have hx : ∀ (i : Nat) (x : AV), (((List.range len).map fun i => (F i).1).map ea)[i]? = some x → i < len ∧ x = ea (F i).1 := by
      intro i x hx
      rw [List.map_map, List.getElem?_map] at hx
      obtain ⟨j, hj, rfl⟩ := Option.map_eq_some_iff.1 hx
      obtain ⟨hi, hj'⟩ := List.getElem?_eq_some_iff.1 hj
      simp only [List.length_range] at hi
      simp only [List.getElem_range] at hj'
      subst hj'
      exact ⟨hi, rfl⟩
    refine ⟨(List.range len).map fun i => (F i).1, _, rfl, fun f hf => ?_, by rw [List.length_map, List.length_range]; omega, ?_⟩
    · obtain ⟨i, hi, rfl⟩ := List.mem_map.1 hf
      exact (hF i (List.mem_range.1 hi)).2.1
    · have ea' : a = ⟨a.block, a.off, none⟩ := by cases a; cases hspot; rfl
      rw [ea']
      refine .list false _ a.block a.off len cap n (fun i k => (F i).2.getD k (.bool false)) (by simp) hlc (fun e => by cases e) ?_ ?_ ?_
      · intro i x h
        obtain ⟨_, rfl⟩ := hx i x h
        exact hlen _
      · intro i k hi hk
        obtain ⟨_, _, g⟩ := World.cells?_some (hF i hi).1
        have g0 := g k hk
        have hl := (hF i hi).2.2.1
        rw [hlen] at hl
        rw [addr_add hspot, addr_add rfl] at g0
        show W.cell? ⟨a.block, a.off + (i * n + k), none⟩ = _
        rw [show a.off + (i * n + k) = a.off + i * n + k by omega, g0]
        simp only [List.getD, List.getElem?_eq_getElem (show k < (F i).2.length by omega), Option.getD_some]
      · intro i x k c hx1 hc1
        obtain ⟨hi, rfl⟩ := hx i x hx1
        have hl := (hF i hi).2.2.1
        rw [hlen] at hl
        have hk : k < n := by
          have := (List.getElem?_eq_some_iff.1 hc1).1
          rw [hlen] at this; exact this
        exact (hF i hi).2.2.2 k c _ hc1 (by simp [List.getD, List.getElem?_eq_getElem (show k < (F i).2.length by omega)])
def TxB (s : Bs) : Prop := s.length < 100000000000000000
instance : Inhabited Bs := ⟨[]⟩
def encNs (ns : List Bs) : AV := .list false (ns.map encT)
def NsB (ns : List Bs) : Prop := ns.length < 4611686018427387904 ∧ ∀ s ∈ ns, s.length < 100000000000000000
end
end Go.Sx
