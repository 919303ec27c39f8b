/- Lg, part C: the operations, one by one. -/
import Derived.Test.YtndchmmclfidgaaDoorLgB
set_option linter.unusedVariables false
set_option linter.unusedSimpArgs false
namespace Go.Lg
open Go.RowKit

theorem run_newVar (P : Program) (t : TypeId) (v : Value) (w : World) : (newVar t v).run P w = .ok ⟨w.heap.size, 0, none⟩ (w.alloc (.cells v.cells t)) := by
  simp [newVar, newRow, newObj, Sem.run]

/-- A new box. -/
theorem new_box {gl : Nat → List AV} {w0 w : World} {G : Gh} {σ : Sto} (h : Inv gl w0 G σ w) {a : AV} {v : Value} (hr : Rep G a v) (hd : a.def = true) (t : TypeId) :
    ∃ G', Rep G' (.ptr σ.next 0) (.pointer (some ⟨w.heap.size, 0, none⟩)) ∧ Inv gl w0 G' (σ.add (.box a.cells)) (w.alloc (.cells v.cells t)) ∧ Ext G σ w G' (σ.add (.box a.cells)) (w.alloc (.cells v.cells t)) := by
  obtain ⟨h1, h2⟩ := hr.cells hd
  have hle := Gh.le_new (G := G) (id := σ.next) ⟨w.heap.size, 0, a.cells.length, 0⟩ (h.fresh _ (Nat.le_refl _))
  refine ⟨G.new σ.next ⟨w.heap.size, 0, a.cells.length, 0⟩, .ptr _ _ ⟨w.heap.size, 0, a.cells.length, 0⟩ (by simp [Gh.new]), ?_, Ext.new h (σ.next + 1) _ _ _ (by omega) rfl⟩
  refine Inv.new h σ.next (σ.next + 1) (.box a.cells) _ _ (by omega) (by omega) (h.fresh _ (Nat.le_refl _)) rfl ?_
  refine ⟨v.cells, t, heap_alloc_new w _, h1, fun i c hc => ?_, fun k => ?_⟩
  · obtain ⟨u, hu, hr⟩ := h2 i c hc
    exact ⟨u, hu, hr.mono hle⟩
  · show G.I w.heap.size k = none
    cases hI : G.I w.heap.size k with
    | none => rfl
    | some v => have := h.imm_lt hI; omega

section ops
variable {C : Cx} {o : Oper} {ρ : Operand → AV} {σ : Sto}

theorem snd_move {x : Operand} (ho : o.op = .move x ∨ o.op = .assign x) : Snd C o ρ σ ⟨True, ρ x, σ⟩ :=
  snd_pure fun _ w0 G a w hi hx => ⟨a.eval x, by rcases ho with ho | ho <;> simp [execOp, ho], hx x (by rcases ho with ho | ho <;> simp [ho, Op.operands])⟩

theorem snd_pick {c x y : Operand} (ho : o.op = .pick c x y) : Snd C o ρ σ ⟨(ρ c).isBool = true, if (ρ c).theB = true then ρ x else ρ y, σ⟩ :=
  snd_pure fun hc w0 G a w hi hx => by
    have e := (hx c (by simp [ho, Op.operands])).isBool hc
    refine ⟨if (ρ c).theB = true then a.eval x else a.eval y, ?_, ?_⟩
    · simp [execOp, ho, e, asBool]
    · split
      · exact hx x (by simp [ho, Op.operands])
      · exact hx y (by simp [ho, Op.operands])

theorem snd_box {t : TypeId} {x : Operand} (ho : o.op = .box t x) : Snd C o ρ σ ⟨(ρ x).def = true, .ptr σ.next 0, σ.add (.box (ρ x).cells)⟩ := by
  intro hc w0 G a w hi hx
  obtain ⟨G', h1, h2, h3⟩ := new_box hi (hx x (by simp [ho, Op.operands])) hc t
  exact ⟨G', .value (.pointer (some ⟨w.heap.size, 0, none⟩)), _, _, by simp [execOp, ho, Instr.box, run_newVar], .inl rfl, h1, h2, h3⟩

theorem snd_alloc {t : TypeId} {i : TyI} (ht : C.ty t = some i) (ho : o.op = .alloc t) : Snd C o ρ σ ⟨(ofV i.zero).def = true, .ptr σ.next 0, σ.add (.box (ofV i.zero).cells)⟩ := by
  intro hc w0 G a w hi hx
  obtain ⟨G', h1, h2, h3⟩ := new_box hi (rep_ofV G i.zero) hc t
  exact ⟨G', .value (.pointer (some ⟨w.heap.size, 0, none⟩)), _, _, by simp [execOp, ho, Instr.alloc, C.run_zero ht, run_newVar], .inl rfl, h1, h2, h3⟩

/-! ### Loads -/
theorem snd_load_box {t : TypeId} {i : TyI} {x : Operand} {id k : Nat} {cs : List AV} (ht : C.ty t = some i) (ho : o.op = .load t x) (hx : ρ x = .ptr id k) (hs : σ.get id = some (.box cs)) :
    Snd C o ρ σ ⟨rdOK i cs k, rdC i cs k, σ⟩ :=
  snd_pure fun hc w0 G a w hi hr => by
    have hp := hr x (by simp [ho, Op.operands])
    rw [hx] at hp
    cases hv : a.eval x with
    | pointer ad =>
      rw [hv] at hp
      cases hp with
      | ptr _ _ B hj =>
        obtain ⟨_, vs, ty, h1, h2, h3, h4⟩ := hi.obj id _ B hs hj
        obtain ⟨v, e1, e2⟩ := run_loadVar_rd (C := C) ht (G := G) (w := w) (cells := cs) (b := B.b) (o := 0) (k := k) (fun j c hj' => by
          obtain ⟨v, hv', hr'⟩ := h3 j c hj'
          exact ⟨v, by rw [cell_at h1]; simpa using hv', hr'⟩) hc
        refine ⟨v, ?_, e2⟩
        simp only [Nat.zero_add] at e1
        simp [execOp, ho, hv, Instr.loadAt, Instr.sureAddr, e1]
    | _ => rw [hv] at hp; cases hp

theorem snd_load_imm {t : TypeId} {i : TyI} {x : Operand} {k : Nat} {cs : List AV} (ht : C.ty t = some i) (ho : o.op = .load t x) (hx : ρ x = .eptr cs k) :
    Snd C o ρ σ ⟨rdOK i cs k, rdC i cs k, σ⟩ :=
  snd_pure fun hc w0 G a w hi hr => by
    have hp := hr x (by simp [ho, Op.operands])
    rw [hx] at hp
    cases hv : a.eval x with
    | pointer ad =>
      rw [hv] at hp
      cases hp with
      | eptr _ _ b o' vs hI hv' =>
        obtain ⟨v, e1, e2⟩ := run_loadVar_rd (C := C) ht (G := G) (w := w) (cells := cs) (b := b) (o := o') (k := k) (fun j c hj => by
          have hj' : j < cs.length := (List.getElem?_eq_some_iff.1 hj).1
          exact ⟨vs j, hi.imm _ _ _ (hI j hj'), hv' j c hj⟩) hc
        exact ⟨v, by simp [execOp, ho, hv, Instr.loadAt, Instr.sureAddr, e1], e2⟩
    | _ => rw [hv] at hp; cases hp

theorem snd_load_row {t : TypeId} {i : TyI} {x : Operand} {id n k : Nat} {es : Nat} {xs : List AV} {fz : Bool} {e : AV} (ht : C.ty t = some i) (ho : o.op = .load t x) (hx : ρ x = .rptr id n k)
    (hs : σ.get id = some (.row es xs fz)) (he : xs[n]? = some e) : Snd C o ρ σ ⟨rdOK i e.cells k, rdC i e.cells k, σ⟩ :=
  snd_pure fun hc w0 G a w hi hr => by
    have hp := hr x (by simp [ho, Op.operands])
    rw [hx] at hp
    cases hv : a.eval x with
    | pointer ad =>
      rw [hv] at hp
      cases hp with
      | rptr _ _ _ B hj =>
        obtain ⟨_, vs, ty, h1, h2, h3, h4, h5, h6, h7⟩ := hi.obj id _ B hs hj
        obtain ⟨v, e1, e2⟩ := run_loadVar_rd (C := C) ht (G := G) (w := w) (cells := e.cells) (b := B.b) (o := B.o0 + n * B.es) (k := k) (fun j c hj' => by
          obtain ⟨v, hv', hr'⟩ := h6 n e j c he hj'
          exact ⟨v, by rw [cell_at h1, h3]; exact hv', hr'⟩) hc
        exact ⟨v, by simp [execOp, ho, hv, Instr.loadAt, Instr.sureAddr, e1], e2⟩
    | _ => rw [hv] at hp; cases hp

/-! ### Stores -/
theorem wr_length {cs xs : List AV} {k : Nat} (h : k + xs.length ≤ cs.length) : (wr cs k xs).length = cs.length := by simp [wr]; omega

theorem wr_get {cs xs : List AV} {k j : Nat} (h : k + xs.length ≤ cs.length) : (wr cs k xs)[j]? = if k ≤ j ∧ j < k + xs.length then xs[j - k]? else cs[j]? := by
  unfold wr
  rw [List.append_assoc, List.getElem?_append, List.length_take]
  by_cases h1 : j < k
  · rw [if_pos (by omega), if_neg (by omega), List.getElem?_take, if_pos h1]
  · rw [if_neg (by omega), List.getElem?_append]
    by_cases h2 : j < k + xs.length
    · rw [if_pos (by omega), if_pos (by omega)]; congr 1; omega
    · rw [if_neg (by omega), if_neg (by omega), List.getElem?_drop]; congr 1; omega

/-- The cells of a block with a run of them replaced. -/
def wrV (cs : Array Value) (k : Nat) (xs : List Value) : Array Value := (cs.toList.take k ++ xs ++ cs.toList.drop (k + xs.length)).toArray
theorem wrV_size {cs : Array Value} {xs : List Value} {k : Nat} (h : k + xs.length ≤ cs.size) : (wrV cs k xs).size = cs.size := by simp [wrV]; omega
theorem wrV_get {cs : Array Value} {xs : List Value} {k j : Nat} (h : k + xs.length ≤ cs.size) : (wrV cs k xs)[j]? = if k ≤ j ∧ j < k + xs.length then xs[j - k]? else cs[j]? := by
  unfold wrV
  have hl : cs.toList.length = cs.size := by simp
  rw [List.getElem?_toArray, List.append_assoc, List.getElem?_append, List.length_take]
  by_cases h1 : j < k
  · rw [if_pos (by omega), if_neg (by omega), List.getElem?_take, if_pos h1, Array.getElem?_toList]
  · rw [if_neg (by omega), List.getElem?_append]
    by_cases h2 : j < k + xs.length
    · rw [if_pos (by omega), if_pos (by omega)]; congr 1; omega
    · rw [if_neg (by omega), if_neg (by omega), List.getElem?_drop, Array.getElem?_toList]; congr 1; omega

theorem run_storeVar_at {C : Cx} {t : TypeId} {i : TyI} (ht : C.ty t = some i) {w : World} {b k : Nat} {vs : Array Value} {ty : TypeId} {v : Value}
    (hb : w.heap[b]? = some (.cells vs ty (0, 0))) (hs : v.cells.size = i.size) (hk : k + i.size ≤ vs.size) (h1 : ∀ u ∈ v.cells.toList, u.oneCell' = true) :
    (storeVar t ⟨b, k, none⟩ v).run C.P w = .ok () (w.setRow b (wrV vs k v.cells.toList)) := by
  have h := run_storeCells_at C.P b k ty v.cells.toList 0 vs w hb (by simp; omega) h1
  simp only [Nat.add_zero] at h
  simp [storeVar, C.run_size ht, hs, h, wrV]

theorem setRow_os (w : World) (b : Nat) (cs : Array Value) : (w.setRow b cs).os = w.os := rfl

theorem snd_store_box {t : TypeId} {i : TyI} {x y : Operand} {id k : Nat} {cs : List AV} (ht : C.ty t = some i) (ho : o.op = .store t x y) (hx : ρ x = .ptr id k) (hs : σ.get id = some (.box cs)) :
    Snd C o ρ σ ⟨(ρ y).def = true ∧ (ρ y).cells.length = i.size ∧ k + i.size ≤ cs.length ∧ (ρ y).cells.all AV.one = true, .undef, σ.set id (.box (wr cs k (ρ y).cells))⟩ := by
  rintro ⟨c1, c2, c3, c4⟩ w0 G a w hi hr
  have hp := hr x (by simp [ho, Op.operands])
  have hq := hr y (by simp [ho, Op.operands])
  obtain ⟨q1, q2⟩ := hq.cells c1
  rw [hx] at hp
  cases hv : a.eval x with
  | pointer ad =>
    rw [hv] at hp
    cases hp with
    | ptr _ _ B hj =>
      obtain ⟨_, vs, ty, h1, h2, h3, h4⟩ := hi.obj id _ B hs hj
      have one : ∀ u ∈ (a.eval y).cells.toList, u.oneCell' = true := by
        intro u hu
        obtain ⟨j, hj', rfl⟩ := List.getElem_of_mem hu
        have hj2 : j < (ρ y).cells.length := by rw [← q1]; simpa using hj'
        obtain ⟨u, hu', hru⟩ := q2 j _ (List.getElem?_eq_getElem hj2)
        have : (a.eval y).cells.toList[j] = u := by
          have := hu'
          rw [Array.getElem?_eq_getElem (by simpa using hj')] at this
          simpa using this
        rw [this]
        exact hru.one (List.all_eq_true.1 c4 _ (List.getElem_mem hj2))
      have hl : (a.eval y).cells.toList.length = i.size := by simp [q1, c2]
      have hrun := run_storeVar_at ht h1 (by rw [q1, c2]) (by rw [h2]; omega) one
      refine ⟨G, .skip, undef, w.setRow B.b (wrV vs k (a.eval y).cells.toList), by simp [execOp, ho, hv, Instr.storeAt, Instr.sureAddr, hrun], .inr ⟨rfl, rfl⟩, .undef _, ?_, ?_⟩
      · refine Inv.set hi id _ _ B hs hj rfl rfl rfl (by simp) (fun b' hb' => setRow_other w B.b b' _ hb') (fun k' v' hk' => by rw [h4 k'] at hk'; cases hk') ?_
        refine ⟨_, ty, setRow_heap w B.b vs _ ty _ h1, ?_, ?_, h4⟩
        · rw [wrV_size (by omega), wr_length (by omega), h2]
        · intro j c hc
          rw [wr_get (by omega)] at hc
          rw [wrV_get (by omega)]
          by_cases e : k ≤ j ∧ j < k + (ρ y).cells.length
          · rw [if_pos e] at hc
            rw [if_pos (by omega)]
            obtain ⟨u, hu, hru⟩ := q2 _ _ hc
            exact ⟨u, by rw [Array.getElem?_toList]; exact hu, hru⟩
          · rw [if_neg e] at hc
            rw [if_neg (by omega)]
            exact h3 j c hc
      · exact Ext.set id _ _ B hs hj (by simp) (fun b' hb' => setRow_other w B.b b' _ hb')
  | _ => rw [hv] at hp; cases hp

theorem snd_store_row {t : TypeId} {i : TyI} {x y : Operand} {id n k es : Nat} {xs : List AV} {e : AV} (ht : C.ty t = some i) (ho : o.op = .store t x y) (hx : ρ x = .rptr id n k)
    (hs : σ.get id = some (.row es xs false)) (he : xs[n]? = some e) :
    Snd C o ρ σ ⟨(ρ y).def = true ∧ (ρ y).cells.length = i.size ∧ k + i.size ≤ es ∧ (ρ y).cells.all AV.one = true, .undef,
      σ.set id (.row es (xs.set n (if es = 1 ∧ i.size = 1 then (ρ y).cells.getD 0 .undef else .agg (wr e.cells k (ρ y).cells))) false)⟩ := by
  rintro ⟨c1, c2, c3, c4⟩ w0 G a w hi hr
  have hp := hr x (by simp [ho, Op.operands])
  have hq := hr y (by simp [ho, Op.operands])
  obtain ⟨q1, q2⟩ := hq.cells c1
  rw [hx] at hp
  cases hv : a.eval x with
  | pointer ad =>
    rw [hv] at hp
    cases hp with
    | rptr _ _ _ B hj =>
      obtain ⟨_, vs, ty, h1, h2, h3, h4, h5, h6, h7⟩ := hi.obj id _ B hs hj
      have hn : n < xs.length := (List.getElem?_eq_some_iff.1 he).1
      have hel := h5 n e he
      have hnes : n * es + es ≤ xs.length * es := by rw [← Nat.succ_mul]; exact Nat.mul_le_mul_right _ hn
      have one : ∀ u ∈ (a.eval y).cells.toList, u.oneCell' = true := by
        intro u hu
        obtain ⟨j, hj', rfl⟩ := List.getElem_of_mem hu
        have hj2 : j < (ρ y).cells.length := by rw [← q1]; simpa using hj'
        obtain ⟨u, hu', hru⟩ := q2 j _ (List.getElem?_eq_getElem hj2)
        have : (a.eval y).cells.toList[j] = u := by
          have := hu'
          rw [Array.getElem?_eq_getElem (by simpa using hj')] at this
          simpa using this
        rw [this]
        exact hru.one (List.all_eq_true.1 c4 _ (List.getElem_mem hj2))
      have hl : (a.eval y).cells.toList.length = i.size := by simp [q1, c2]
      rw [h3] at hv
      have hrun := run_storeVar_at (k := B.o0 + n * es + k) ht h1 (by rw [q1, c2]) (by rw [h2]; omega) one
      have hnew : (if es = 1 ∧ i.size = 1 then (ρ y).cells.getD 0 .undef else AV.agg (wr e.cells k (ρ y).cells)).cells = wr e.cells k (ρ y).cells := by
        split
        · rename_i hh
          have hk0 : k = 0 := by omega
          subst hk0
          obtain ⟨c, hc⟩ : ∃ c, (ρ y).cells = [c] := List.length_eq_one_iff.1 (by omega)
          obtain ⟨d, hd⟩ : ∃ d, e.cells = [d] := List.length_eq_one_iff.1 (by omega)
          have h1c : c.one = true := List.all_eq_true.1 c4 c (by rw [hc]; simp)
          rw [hc, hd]
          simp only [List.getD_cons_zero, wr, List.take_zero, List.nil_append, List.length_singleton, Nat.zero_add, List.drop_one, List.tail_cons, List.append_nil]
          cases c <;> first | rfl | simp [AV.one] at h1c
        · rfl
      refine ⟨G, .skip, undef, w.setRow B.b (wrV vs (B.o0 + n * es + k) (a.eval y).cells.toList), by simp [execOp, ho, hv, Instr.storeAt, Instr.sureAddr, hrun], .inr ⟨rfl, rfl⟩, .undef _, ?_, ?_⟩
      · refine Inv.set hi id _ _ B hs hj rfl rfl rfl (by simp) (fun b' hb' => setRow_other w B.b b' _ hb') (fun k' v' hk' => ?_) ?_
        · have hlo : k' < B.o0 := by
            rcases Nat.lt_or_ge k' B.o0 with h | h
            · exact h
            · rw [h7 k' h] at hk'; simp at hk'
          have hcell := hi.imm _ _ _ hk'
          rw [cell_at h1] at hcell
          rw [cell_at (setRow_heap w B.b vs _ ty _ h1), wrV_get (by omega), if_neg (by omega)]
          exact hcell
        refine ⟨_, ty, setRow_heap w B.b vs _ ty _ h1, ?_, h3, by simpa using h4, ?_, ?_, ?_⟩
        · rw [wrV_size (by omega), h2]
        · intro j z hz
          rw [List.getElem?_set] at hz
          split at hz
          · rename_i e1; subst e1
            cases hz
            rw [hnew, wr_length (by omega)]; exact hel
          · exact h5 j z hz
        · intro j z k' c hz hc
          rw [wrV_get (by omega)]
          rw [List.getElem?_set] at hz
          split at hz
          · rename_i e1; subst e1
            cases hz
            rw [hnew, wr_get (by omega)] at hc
            by_cases e2 : k ≤ k' ∧ k' < k + (ρ y).cells.length
            · rw [if_pos e2] at hc
              rw [if_pos (by omega)]
              obtain ⟨u, hu, hru⟩ := q2 _ _ hc
              refine ⟨u, ?_, hru⟩
              rw [Array.getElem?_toList, ← hu]; congr 1; omega
            · rw [if_neg e2] at hc
              rw [if_neg (by omega)]
              exact h6 n e k' c he hc
          · rename_i e1
            have hz' := h5 j z hz
            have hk' : k' < es := by rw [← hz']; exact (List.getElem?_eq_some_iff.1 hc).1
            have hne : ¬ (B.o0 + n * es + k ≤ B.o0 + j * es + k' ∧ B.o0 + j * es + k' < B.o0 + n * es + k + (a.eval y).cells.toList.length) := by
              rw [hl]
              rintro ⟨g1, g2⟩
              rcases Nat.lt_or_gt_of_ne e1 with hlt | hgt
              · have : (n + 1) * es ≤ j * es := Nat.mul_le_mul_right _ hlt
                rw [Nat.succ_mul] at this; omega
              · have : (j + 1) * es ≤ n * es := Nat.mul_le_mul_right _ hgt
                rw [Nat.succ_mul] at this; omega
            rw [if_neg hne]
            exact h6 j z k' c hz hc
        · intro k' hk'; simp only [Bool.false_eq_true, false_and, if_false]
          simpa using h7 k' hk'
      · exact Ext.set id _ _ B hs hj (by simp) (fun b' hb' => setRow_other w B.b b' _ hb')
  | _ => rw [hv] at hp; cases hp

end ops
end Go.Lg
