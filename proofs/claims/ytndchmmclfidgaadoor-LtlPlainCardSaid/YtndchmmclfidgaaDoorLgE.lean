/- Lg, part E: struct, array and slice literals. -/
import Derived.Test.YtndchmmclfidgaaDoorLgD
set_option linter.unusedVariables false
set_option linter.unusedSimpArgs false
namespace Go.Lg
open Go.RowKit

/-- Cells and what they stand for. -/
def CR (G : Gh) (cells : List AV) (vs : Array Value) : Prop := vs.size = cells.length ∧ ∀ (i : Nat) (c : AV), cells[i]? = some c → ∃ u : Value, vs[i]? = some u ∧ Rep G c u

theorem CR.agg {G : Gh} {cells : List AV} {vs : Array Value} (h : CR G cells vs) : Rep G (.agg cells) (.agg vs) :=
  .agg _ _ h.1 fun i c v h1 h2 => by
    obtain ⟨u, hu, hr⟩ := h.2 i c h1
    rw [h2] at hu
    cases hu
    exact hr

theorem CR.wr {G : Gh} {cells xs : List AV} {vs ws : Array Value} (h : CR G cells vs) (k : CR G xs ws) {off : Nat} (hf : off + xs.length ≤ cells.length) : CR G (Lg.wr cells off xs) (wrV vs off ws.toList) := by
  have hl : ws.toList.length = xs.length := by simp [k.1]
  refine ⟨by rw [wrV_size (by rw [hl, h.1]; exact hf), wr_length hf, h.1], fun i c hc => ?_⟩
  rw [wr_get hf] at hc
  rw [wrV_get (by rw [hl, h.1]; exact hf)]
  by_cases e : off ≤ i ∧ i < off + xs.length
  · rw [if_pos e] at hc
    rw [if_pos (by omega), Array.getElem?_toList]
    exact k.2 _ c hc
  · rw [if_neg e] at hc
    rw [if_neg (by omega)]
    exact h.2 i c hc

theorem fold_set (off : Nat) : ∀ (xs : List Value) (j : Nat) (cells : Array Value),
    ((xs.zipIdx j).foldl (fun cs (x : Value × Nat) => cs.setIfInBounds (off + x.2) x.1) cells).size = cells.size ∧
    ∀ k, off + j + xs.length ≤ cells.size → ((xs.zipIdx j).foldl (fun cs (x : Value × Nat) => cs.setIfInBounds (off + x.2) x.1) cells)[k]? = if off + j ≤ k ∧ k < off + j + xs.length then xs[k - (off + j)]? else cells[k]?
  | [], j, cells => ⟨by simp, fun k _ => by simp; intro h1 h2; omega⟩
  | x :: xs, j, cells => by
    obtain ⟨h1, h2⟩ := fold_set off xs (j + 1) (cells.setIfInBounds (off + j) x)
    simp only [List.zipIdx_cons, List.foldl_cons]
    refine ⟨by rw [h1]; simp, fun k hk => ?_⟩
    rw [h2 k (by simp at hk ⊢; omega)]
    simp only [List.length_cons] at hk ⊢
    by_cases e : k = off + j
    · subst e
      rw [if_neg (by omega), if_pos (by omega), Nat.sub_self]
      rw [Array.getElem?_setIfInBounds_self_of_lt (by omega)]; rfl
    · rw [Array.getElem?_setIfInBounds_ne (fun h => e h.symm)]
      by_cases e2 : off + j ≤ k ∧ k < off + j + (xs.length + 1)
      · rw [if_pos (by omega), if_pos e2]
        have : k - (off + j) = (k - (off + (j + 1))) + 1 := by omega
        rw [this, List.getElem?_cons_succ]
      · rw [if_neg (by omega), if_neg e2]

theorem fold_wrV {cells : Array Value} {v : Value} {off : Nat} (h : off + v.cells.size ≤ cells.size) : v.cells.zipIdx.foldl (fun cs (x : Value × Nat) => cs.setIfInBounds (off + x.2) x.1) cells = wrV cells off v.cells.toList := by
  rw [← Array.foldl_toList, Array.toList_zipIdx]
  obtain ⟨h1, h2⟩ := fold_set off v.cells.toList 0 cells
  apply Array.ext_getElem?
  intro k
  rw [h2 k (by simpa using h), wrV_get (by simpa using h)]
  simp

def fillA (place : Nat → Option (Nat × Nat)) (cells : List AV) : List (Nat × AV) → Option (List AV)
  | [] => some cells
  | (i, v) :: rest =>
    match place i with
    | none => none
    | some (off, size) => if v.def = true ∧ v.cells.length = size ∧ off + size ≤ cells.length then fillA place (wr cells off v.cells) rest else none

theorem fill_rep {G : Gh} {place : Nat → Option (Nat × Nat)} (f : Operand → AV) (g : Operand → Value) : ∀ (parts : List (Nat × Operand)) (cells : List AV) (vs : Array Value) (r : List AV), CR G cells vs → (∀ p ∈ parts, Rep G (f p.2) (g p.2)) →
    fillA place cells (parts.map fun p => (p.1, f p.2)) = some r → ∃ vs', Instr.fill place vs (parts.map fun p => (p.1, g p.2)) = some vs' ∧ CR G r vs'
  | [], cells, vs, r, h, _, hr => by
    simp only [List.map_nil, fillA, Option.some.injEq] at hr
    subst hr
    exact ⟨vs, rfl, h⟩
  | p :: parts, cells, vs, r, h, hp, hr => by
    simp only [List.map_cons, fillA] at hr
    cases hpl : place p.1 with
    | none => rw [hpl] at hr; cases hr
    | some os =>
      obtain ⟨off, size⟩ := os
      rw [hpl] at hr
      simp only at hr
      split at hr
      · rename_i hc
        obtain ⟨c1, c2, c3⟩ := hc
        have hq := (hp p (by simp)).cells c1
        have hcr := h.wr (xs := (f p.2).cells) (ws := (g p.2).cells) ⟨hq.1, hq.2⟩ (off := off) (by omega)
        have hsz : (g p.2).cells.size = size := by rw [hq.1, c2]
        obtain ⟨vs', h1, h2⟩ := fill_rep f g parts _ _ r hcr (fun q hq => hp q (by simp [hq])) hr
        refine ⟨vs', ?_, h2⟩
        simp only [List.map_cons, Instr.fill, hpl]
        have hle : ¬ (off + (g p.2).cells.size > vs.size) := by rw [h.1]; omega
        simp only [hsz, ne_eq, not_true_eq_false, decide_false, Bool.false_or]
        rw [hsz] at hle
        simp only [hle, decide_false, Bool.false_eq_true, if_false]
        rw [fold_wrV (by rw [h.1]; omega)]
        exact h1
      · cases hr

def szOf (C : Cx) (t : TypeId) : Nat := match C.ty t with | some i => i.size | none => 0
def placesOf (C : Cx) (fs : List Field) : Nat → Option (Nat × Nat) := fun i => (fs[i]?).map fun f => (f.offset, szOf C f.type)

theorem run_mapM_list {P : Program} {α β : Type} (f : α → Sem β) (g : α → β) (w : World) : ∀ (xs : List α), (∀ x ∈ xs, (f x).run P w = .ok (g x) w) → (xs.mapM f).run P w = .ok (xs.map g) w
  | [], _ => by simp
  | x :: xs, h => by
    have ih := run_mapM_list f g w xs fun y hy => h y (by simp [hy])
    simp [List.mapM_cons, h x (by simp), ih]

section ops
variable {C : Cx} {o : Oper} {ρ : Operand → AV} {σ : Sto}

theorem ofV_cells (G : Gh) (v : Value) (hd : (ofV v).def = true) : CR G (ofV v).cells v.cells := (rep_ofV G v).cells hd

theorem snd_build_struct {t : TypeId} {ti : TyI} {fs : Array Field} {parts : Array (Nat × Operand)} (ht : C.ty t = some ti) (hd : ti.desc = .struct fs) (hfs : fs.toList.all (fun f => (C.ty f.type).isSome) = true)
    (ho : o.op = .build t parts) :
    Snd C o ρ σ ⟨(ofV ti.zero).def = true ∧ (fillA (placesOf C fs.toList) (ofV ti.zero).cells (parts.toList.map fun p => (p.1, ρ p.2))).isSome = true,
      .agg ((fillA (placesOf C fs.toList) (ofV ti.zero).cells (parts.toList.map fun p => (p.1, ρ p.2))).getD []), σ⟩ :=
  snd_pure fun ⟨hz, hc⟩ w0 G a w hi hr => by
    obtain ⟨r, hr'⟩ := Option.isSome_iff_exists.1 hc
    rw [hr']
    obtain ⟨vs', h1, h2⟩ := fill_rep (G := G) ρ a.eval parts.toList _ _ r (ofV_cells G ti.zero hz) (fun p hp => hr p.2 (by
      simp only [ho, Op.operands]
      rw [List.toList_toArray]
      exact List.mem_map.2 ⟨p, hp, rfl⟩)) hr'
    refine ⟨.agg vs', ?_, h2.agg⟩
    have hm : (fs.mapM fun f => (do pure (f.offset, ← sizeOf f.type) : Sem (Nat × Nat))).run C.P w = .ok ((fs.toList.map fun f => (f.offset, szOf C f.type)).toArray) w := by
      rw [Array.mapM_eq_mapM_toList]
      have := run_mapM_list (P := C.P) (fun f : Field => (do pure (f.offset, ← sizeOf f.type) : Sem (Nat × Nat))) (fun f => (f.offset, szOf C f.type)) w fs.toList (fun f hf => by
        obtain ⟨i, hi⟩ := Option.isSome_iff_exists.1 (List.all_eq_true.1 hfs f hf)
        simp [C.run_size hi, szOf, hi])
      simp only [Sem.run_map, this, Result.andThen_ok]
    have hpl : (fun i => ((fs.toList.map fun f => (f.offset, szOf C f.type)).toArray)[i]?) = placesOf C fs.toList := by
      funext i
      simp [placesOf]
    simp only [execOp, ho, Sem.run_bind, Instr.build, C.run_zero ht, Result.andThen_ok, C.run_und ht, hd, hm, Array.toList_map]
    rw [hpl, h1]
    simp

theorem snd_build_arr {t e : TypeId} {ti ei : TyI} {n : Nat} {parts : Array (Nat × Operand)} (ht : C.ty t = some ti) (hd : ti.desc = .array n e) (he : C.ty e = some ei) (ho : o.op = .build t parts) :
    Snd C o ρ σ ⟨(ofV ti.zero).def = true ∧ (fillA (fun i => some (i * ei.size, ei.size)) (ofV ti.zero).cells (parts.toList.map fun p => (p.1, ρ p.2))).isSome = true,
      .agg ((fillA (fun i => some (i * ei.size, ei.size)) (ofV ti.zero).cells (parts.toList.map fun p => (p.1, ρ p.2))).getD []), σ⟩ :=
  snd_pure fun ⟨hz, hc⟩ w0 G a w hi hr => by
    obtain ⟨r, hr'⟩ := Option.isSome_iff_exists.1 hc
    rw [hr']
    obtain ⟨vs', h1, h2⟩ := fill_rep (G := G) ρ a.eval parts.toList _ _ r (ofV_cells G ti.zero hz) (fun p hp => hr p.2 (by
      simp only [ho, Op.operands]
      rw [List.toList_toArray]
      exact List.mem_map.2 ⟨p, hp, rfl⟩)) hr'
    refine ⟨.agg vs', ?_, h2.agg⟩
    simp only [execOp, ho, Sem.run_bind, Instr.build, C.run_zero ht, Result.andThen_ok, C.run_und ht, hd, Array.toList_map, C.run_size he]
    rw [h1]
    simp

/-! ### Slice literals: lists -/
/-- The cells of elements, all of size es. -/
def flat (xs : List AV) : List AV := xs.flatMap AV.cells

theorem flat_get {es : Nat} : ∀ {xs : List AV}, (∀ x ∈ xs, x.cells.length = es) → (flat xs).length = xs.length * es ∧ ∀ i x k c, xs[i]? = some x → x.cells[k]? = some c → (flat xs)[i * es + k]? = some c
  | [], _ => ⟨by simp [flat], fun i x k c h => by simp at h⟩
  | y :: ys, h => by
    obtain ⟨h1, h2⟩ := flat_get (xs := ys) fun x hx => h x (by simp [hx])
    have hy := h y (by simp)
    refine ⟨by simp only [flat, List.flatMap_cons, List.length_append, hy, List.length_cons] at h1 ⊢; rw [h1, Nat.succ_mul]; omega, fun i x k c hx hc => ?_⟩
    simp only [flat, List.flatMap_cons] at h1 h2 ⊢
    cases i with
    | zero =>
      simp only [List.getElem?_cons_zero, Option.some.injEq] at hx
      subst hx
      rw [Nat.zero_mul, Nat.zero_add, List.getElem?_append_left (List.getElem?_eq_some_iff.1 hc).1]
      exact hc
    | succ i =>
      simp only [List.getElem?_cons_succ] at hx
      rw [List.getElem?_append_right (by rw [hy, Nat.succ_mul]; omega), hy]
      have : (i + 1) * es + k - es = i * es + k := by rw [Nat.succ_mul]; omega
      rw [this]
      exact h2 i x k c hx hc

/-- A block of cells that never change, seen as a list. -/
theorem rep_list {G : Gh} {full : Bool} {xs : List AV} {b o cap es : Nat} {vs : Nat → Option Value} (hl : xs.length ≤ cap) (hf : full = true → cap = xs.length) (hs : ∀ x ∈ xs, x.cells.length = es)
    (hv : ∀ i x k c, xs[i]? = some x → x.cells[k]? = some c → ∃ v, G.I b (o + (i * es + k)) = some v ∧ Rep G c v) : Rep G (.list full xs) (.slice (some ⟨b, o, none⟩) xs.length cap) := by
  refine .list full xs b o xs.length cap es (fun i k => (G.I b (o + (i * es + k))).getD undef) rfl hl hf (fun i x h => hs x (mem_of_get h)) (fun i k hi hk => ?_) fun i x k c h1 h2 => ?_
  · have hx := List.getElem?_eq_getElem hi
    have hk' : k < (xs[i]).cells.length := by rw [hs _ (List.getElem_mem hi)]; exact hk
    obtain ⟨v, h, _⟩ := hv i _ k _ hx (List.getElem?_eq_getElem hk')
    rw [h]; rfl
  · obtain ⟨v, h, hr⟩ := hv i x k c h1 h2
    rw [h]; exact hr

def fillL (size : Nat) (xs : List AV) : List (Nat × AV) → Option (List AV)
  | [] => some xs
  | (i, v) :: rest => if v.def = true ∧ v.cells.length = size ∧ i < xs.length then fillL size (xs.set i v) rest else none

theorem flat_set {es : Nat} : ∀ {xs : List AV} {i : Nat} {v : AV}, (∀ x ∈ xs, x.cells.length = es) → v.cells.length = es → i < xs.length → flat (xs.set i v) = wr (flat xs) (i * es) v.cells
  | [], i, v, _, _, h => by simp at h
  | y :: ys, i, v, h, hv, hi => by
    have hy := h y (by simp)
    cases i with
    | zero =>
      simp only [List.set_cons_zero, flat, List.flatMap_cons, Nat.zero_mul, wr, List.take_zero, List.nil_append, Nat.zero_add, hv]
      rw [← hy, List.drop_left]
    | succ i =>
      have ih := flat_set (xs := ys) (i := i) (v := v) (fun x hx => h x (by simp [hx])) hv (by simpa using hi)
      simp only [flat, List.set_cons_succ, List.flatMap_cons, wr] at ih ⊢
      rw [ih, Nat.succ_mul, hv, Nat.add_comm (i * es) es]
      have h1 : (y.cells ++ List.flatMap AV.cells ys).take (es + i * es) = y.cells ++ (List.flatMap AV.cells ys).take (i * es) := by rw [← hy, List.take_length_add_append]
      have h2 : (y.cells ++ List.flatMap AV.cells ys).drop (es + i * es + es) = (List.flatMap AV.cells ys).drop (i * es + es) := by
        rw [Nat.add_assoc, ← hy, List.drop_length_add_append]
      rw [h1, h2]
      simp [List.append_assoc, Nat.add_comm es]

theorem fillL_flat {size : Nat} : ∀ (parts : List (Nat × AV)) (xs r : List AV), (∀ x ∈ xs, x.cells.length = size) → fillL size xs parts = some r →
    (∀ x ∈ r, x.cells.length = size) ∧ r.length = xs.length ∧ fillA (fun i => some (i * size, size)) (flat xs) parts = some (flat r)
  | [], xs, r, h, hr => by
    simp only [fillL, Option.some.injEq] at hr
    subst hr
    exact ⟨h, rfl, rfl⟩
  | (i, v) :: parts, xs, r, h, hr => by
    simp only [fillL] at hr
    split at hr
    · rename_i hc
      obtain ⟨c1, c2, c3⟩ := hc
      have hset : ∀ x ∈ xs.set i v, x.cells.length = size := by
        intro x hx
        rcases List.mem_or_eq_of_mem_set hx with h' | h'
        · exact h x h'
        · rw [h']; exact c2
      obtain ⟨h1, h2, h3⟩ := fillL_flat parts _ r hset hr
      refine ⟨h1, by rw [h2]; simp, ?_⟩
      simp only [fillA]
      have hle : i * size + size ≤ (flat xs).length := by
        rw [(flat_get h).1, ← Nat.succ_mul]; exact Nat.mul_le_mul_right _ c3
      rw [if_pos ⟨c1, c2, hle⟩, ← flat_set h c2 c3]
      exact h3
    · cases hr

theorem CR.flat {G : Gh} {xs : List AV} {vs : Array Value} {es : Nat} (h : CR G (flat xs) vs) (hs : ∀ x ∈ xs, x.cells.length = es) : ∀ i x k c, xs[i]? = some x → x.cells[k]? = some c → ∃ u, vs[i * es + k]? = some u ∧ Rep G c u :=
  fun i x k c h1 h2 => h.2 _ c ((flat_get hs).2 i x k c h1 h2)

theorem CR.mono {G G' : Gh} {xs : List AV} {vs : Array Value} (h : CR G xs vs) (le : G.le G') : CR G' xs vs := ⟨h.1, fun i c hc => (h.2 i c hc).imp fun u hu => ⟨hu.1, hu.2.mono le⟩⟩

/-- Zero cells, again and again. -/
theorem CR.zeros {G : Gh} {z : List AV} {zv : Array Value} (h : CR G z zv) (hz : 0 < z.length) (n : Nat) (y : AV) (hy : y.cells = z) :
    CR G (Lg.flat (List.replicate n y)) ((Array.range (n * z.length)).map (fun i => zv[i % zv.size]!)) := by
  have hall : ∀ x ∈ List.replicate n y, x.cells.length = z.length := fun x hx => by rw [List.eq_of_mem_replicate hx, hy]
  obtain ⟨h1, h2⟩ := flat_get hall
  refine ⟨by simp [h1], fun i c hc => ?_⟩
  have hi : i < n * z.length := by have := (List.getElem?_eq_some_iff.1 hc).1; rw [h1] at this; simpa using this
  have hq : i / z.length < n := Nat.div_lt_of_lt_mul (by rw [Nat.mul_comm]; exact hi)
  have hm : i % z.length < z.length := Nat.mod_lt _ hz
  have hc2 := h2 (i / z.length) y (i % z.length) (z[i % z.length]) (by simp [hq]) (by rw [hy]; exact List.getElem?_eq_getElem hm)
  rw [Nat.mul_comm, Nat.div_add_mod, hc] at hc2
  cases hc2
  obtain ⟨u, hu, hr⟩ := h.2 _ _ (List.getElem?_eq_getElem hm)
  refine ⟨u, ?_, hr⟩
  have hi' : i < (Array.range (n * z.length)).size := by simpa using hi
  rw [Array.getElem?_map, Array.getElem?_eq_getElem hi']
  simp only [Option.map_some, Array.getElem_range, h.1, Option.some.injEq]
  rw [getElem!_def, hu]

theorem snd_buildSlice {t e : TypeId} {ti ei : TyI} {n : Nat} {parts : Array (Nat × Operand)} (ht : C.ty t = some ti) (hd : ti.desc = .slice e) (he : C.ty e = some ei) (ho : o.op = .buildSlice t n parts) :
    Snd C o ρ σ ⟨(ofV ei.zero).def = true ∧ (ofV ei.zero).cells.length = ei.size ∧ 0 < ei.size ∧ n * ei.size ≤ 16777216 ∧ (fillL ei.size (List.replicate n (ofV ei.zero)) (parts.toList.map fun p => (p.1, ρ p.2))).isSome = true,
      .list true ((fillL ei.size (List.replicate n (ofV ei.zero)) (parts.toList.map fun p => (p.1, ρ p.2))).getD []), σ⟩ := by
  rintro ⟨hz, hzl, h0, hn, hc⟩ w0 G a w hi hr
  obtain ⟨r, hr'⟩ := Option.isSome_iff_exists.1 hc
  dsimp only at *
  rw [hr']
  have hall : ∀ x ∈ List.replicate n (ofV ei.zero), x.cells.length = ei.size := fun x hx => by rw [List.eq_of_mem_replicate hx, hzl]
  obtain ⟨g1, g2, g3⟩ := fillL_flat _ _ r hall hr'
  have hcr := (ofV_cells G ei.zero hz).zeros (by rw [hzl]; exact h0) n (ofV ei.zero) rfl
  rw [hzl] at hcr
  obtain ⟨vs', h1, h2⟩ := fill_rep (G := G) ρ a.eval parts.toList _ _ _ hcr (fun p hp => hr p.2 (by
    simp only [ho, Op.operands]
    rw [List.toList_toArray]
    exact List.mem_map.2 ⟨p, hp, rfl⟩)) g3
  have hrun : (execOp a.eval o).run C.P w = .ok (.value (.slice (some ⟨w.heap.size, 0, none⟩) n n)) (w.alloc (.cells vs' e)) := by
    have hn' : ¬ (n * ei.size > 2 ^ 24) := by omega
    by_cases hz0 : n * ei.size = 0
    · have : n = 0 := by rcases Nat.mul_eq_zero.1 hz0 with h | h <;> omega
      subst this
      have hnil : (Array.range (0 * ei.size)).map (fun i => ei.zero.cells[i % ei.zero.cells.size]!) = #[] := by simp
      rw [hnil] at h1
      have hr0 : Array.map (fun x => (default : Value)) (Array.range 0) = #[] := by simp
      simp [execOp, ho, Instr.buildSlice, C.run_und ht, hd, C.run_size he, hr0, h1, newRow, newObj, Sem.run]
    · simp only [execOp, ho, Sem.run_bind, Instr.buildSlice, C.run_und ht, hd, C.run_size he, Result.andThen_ok, hn', hz0, if_false, Sem.run_pure, C.run_zero he, Array.toList_map]
      rw [h1]
      simp [newRow, newObj, Sem.run]
  have hx : n = r.length := by rw [g2]; simp
  refine ⟨G.mark w.heap.size vs', _, _, _, hrun, .inl rfl, ?_, Inv.mark hi vs' e, Ext.mark hi vs' e⟩
  simp only [Option.getD_some]
  have hrep := rep_list (G := G.mark w.heap.size vs') (full := true) (xs := r) (b := w.heap.size) (o := 0) (cap := r.length) (es := ei.size) (vs := fun _ => none) (Nat.le_refl _) (fun _ => rfl) g1 (fun i x k c h1' h2' => by
    obtain ⟨u, hu, hru⟩ := h2.flat g1 i x k c h1' h2'
    refine ⟨u, ?_, hru.mono (Gh.le_mark hi vs')⟩
    simp only [Gh.mark, if_true, Nat.zero_add]
    exact hu)
  rw [← hx] at hrep
  exact hrep
end ops
end Go.Lg
