/- Lg, part F: slices of slices, append, make; an owned row that becomes a list. -/
import Derived.Test.YtndchmmclfidgaaDoorLgE
set_option linter.unusedVariables false
set_option linter.unusedSimpArgs false
namespace Go.Lg
open Go.RowKit

def okI (ρ : Operand → AV) : Option Operand → Prop
  | none => True
  | some x => (ρ x).isInt = true ∧ 0 ≤ (ρ x).theI
def valI (ρ : Operand → AV) (d : Nat) : Option Operand → Nat
  | none => d
  | some x => (ρ x).theI.toNat

theorem run_bounds {P : Program} {G : Gh} {ρ : Operand → AV} {f : Operand → Value} {lo hi : Option Operand} (w : World) (b : Bool) (len cap : Nat) (hlo : ∀ x, lo = some x → Rep G (ρ x) (f x)) (hhi : ∀ x, hi = some x → Rep G (ρ x) (f x))
    (h1 : okI ρ lo) (h2 : okI ρ hi) (h3 : valI ρ 0 lo ≤ valI ρ len hi) (h4 : valI ρ len hi ≤ cap) :
    (Instr.sliceBounds b len cap (lo.map f) (hi.map f) none).run P w = .ok (valI ρ 0 lo, valI ρ len hi, cap) w := by
  cases lo with
  | none =>
    cases hi with
    | none => simp [Instr.sliceBounds, valI]
    | some y =>
      have e := (hhi y rfl).isInt h2.1
      have g1 := h2.2
      simp only [valI] at h3 h4 ⊢
      have g2 : (ρ y).theI ≤ (cap : Int) := by omega
      simp [Instr.sliceBounds, Instr.sliceBound, e, asIntOf, g1, g2]
  | some x =>
    have ex := (hlo x rfl).isInt h1.1
    have x1 := h1.2
    cases hi with
    | none =>
      simp only [valI] at h3 h4 ⊢
      have g2 : (ρ x).theI ≤ (len : Int) := by omega
      simp [Instr.sliceBounds, Instr.sliceBound, ex, asIntOf, x1, g2]
    | some y =>
      have e := (hhi y rfl).isInt h2.1
      have g1 := h2.2
      simp only [valI] at h3 h4 ⊢
      have g2 : (ρ y).theI ≤ (cap : Int) := by omega
      have g3 : (ρ x).theI ≤ (ρ y).theI := by omega
      have g4 : max (ρ y).theI 0 = (ρ y).theI := by omega
      simp [Instr.sliceBounds, Instr.sliceBound, ex, e, asIntOf, x1, g1, g2, g3, g4]

section ops
variable {C : Cx} {o : Oper} {ρ : Operand → AV} {σ : Sto}

theorem snd_slice_str {t : TypeId} {ti : TyI} {x : Operand} {lo hi : Option Operand} {s : ByteArray} (ht : C.ty t = some ti) (hd : ti.desc = .string) (ho : o.op = .slice t x lo hi none) (hx : ρ x = .str s) :
    Snd C o ρ σ ⟨okI ρ lo ∧ okI ρ hi ∧ valI ρ 0 lo ≤ valI ρ s.size hi ∧ valI ρ s.size hi ≤ s.size, .str (s.extract (valI ρ 0 lo) (valI ρ s.size hi)), σ⟩ :=
  snd_pure fun ⟨c1, c2, c3, c4⟩ w0 G a w hi' hr => by
    have hp := hr x (by simp [ho, Op.operands])
    rw [hx] at hp
    replace hp := hp.isStr
    have hb := run_bounds (P := C.P) (G := G) (ρ := ρ) (f := a.eval) (lo := lo) (hi := hi) w false s.size s.size (fun y hy => hr y (by simp [ho, Op.operands, hy])) (fun y hy => hr y (by simp [ho, Op.operands, hy])) c1 c2 c3 c4
    exact ⟨_, by simp [execOp, ho, Instr.sliceAt, Instr.slice, C.run_und ht, hd, hp, hb], .str _⟩

theorem snd_slice_list {t e : TypeId} {ti ei : TyI} {x : Operand} {lo hi : Option Operand} {full : Bool} {xs : List AV} (ht : C.ty t = some ti) (hd : ti.desc = .slice e) (he : C.ty e = some ei) (ho : o.op = .slice t x lo hi none) (hx : ρ x = .list full xs) :
    Snd C o ρ σ ⟨okI ρ lo ∧ okI ρ hi ∧ valI ρ 0 lo ≤ valI ρ xs.length hi ∧ valI ρ xs.length hi ≤ xs.length ∧ (∀ x ∈ xs, x.cells.length = ei.size),
      .list (full && hi.isNone) ((xs.take (valI ρ xs.length hi)).drop (valI ρ 0 lo)), σ⟩ :=
  snd_pure fun ⟨c1, c2, c3, c4, c5⟩ w0 G a w hi' hr => by
    have hp := hr x (by simp [ho, Op.operands])
    rw [hx] at hp
    cases hv : a.eval x with
    | slice ad len cap =>
      rw [hv] at hp
      have hlen : len = xs.length ∧ len ≤ cap := by
        cases hp with
        | list0 => exact ⟨rfl, Nat.zero_le _⟩
        | list _ _ _ _ _ _ _ _ h1 h2 _ _ _ _ => exact ⟨h1.symm, h2⟩
      obtain ⟨rfl, hcap⟩ := hlen
      have hb := run_bounds (P := C.P) (G := G) (ρ := ρ) (f := a.eval) (lo := lo) (hi := hi) w true xs.length cap (fun y hy => hr y (by simp [ho, Op.operands, hy])) (fun y hy => hr y (by simp [ho, Op.operands, hy])) c1 c2 c3 (by omega)
      refine ⟨.slice (if cap = valI ρ 0 lo then ad else ad.map fun x => x.add (valI ρ 0 lo * ei.size)) (valI ρ xs.length hi - valI ρ 0 lo) (cap - valI ρ 0 lo), by simp [execOp, ho, Instr.sliceAt, Instr.slice, C.run_und ht, hd, hv, hb, C.run_size he], ?_⟩
      generalize hL : valI ρ 0 lo = l at *
      generalize hH : valI ρ xs.length hi = h at *
      have hlen2 : ((xs.take h).drop l).length = h - l := by simp; omega
      by_cases hz : h - l = 0
      · have hnil : (xs.take h).drop l = [] := List.eq_nil_of_length_eq_zero (by omega)
        rw [hnil, hz]
        refine .list0 _ _ _ fun hf => ?_
        simp only [Bool.and_eq_true, Option.isNone_iff_eq_none] at hf
        obtain ⟨hf1, rfl⟩ := hf
        have hh : h = xs.length := by rw [← hH]; rfl
        cases hp with
        | list0 _ _ _ h => have := h hf1; simp at hh; omega
        | list _ _ _ _ _ _ _ _ _ _ g _ _ _ => have := g hf1; omega
      · cases hp with
        | list0 => simp at c4; omega
        | list _ _ b o' _ _ es vs h1 h2 hf hs hI hvv =>
          have hne : cap ≠ l := by omega
          have hes : es = ei.size := by
            have h0 : 0 < xs.length := by omega
            have := hs 0 _ (List.getElem?_eq_getElem h0)
            rw [← this]; exact c5 _ (List.getElem_mem h0)
          simp only [hne, if_false, Option.map_some, add_at]
          rw [← hlen2]
          refine rep_list (es := ei.size) (vs := fun _ => none) (by omega) ?_ (fun x hx => c5 x (List.mem_of_mem_take (List.mem_of_mem_drop hx))) ?_
          · intro hff
            simp only [Bool.and_eq_true, Option.isNone_iff_eq_none] at hff
            obtain ⟨hf1, rfl⟩ := hff
            have hh : h = xs.length := by rw [← hH]; rfl
            have := hf hf1
            omega
          · intro i z k c hz' hc
            rw [List.getElem?_drop, List.getElem?_take] at hz'
            split at hz'
            · rename_i hlt
              have hk : k < es := by rw [← hs _ _ hz']; exact (List.getElem?_eq_some_iff.1 hc).1
              have hi2 := (List.getElem?_eq_some_iff.1 hz').1
              refine ⟨vs (l + i) k, ?_, hvv _ _ _ _ hz' hc⟩
              rw [← hes, show o' + l * es + (i * es + k) = o' + ((l + i) * es + k) by rw [Nat.add_mul]; omega]
              exact hI _ _ hi2 hk
            · cases hz'
    | _ => rw [hv] at hp; cases hp

theorem snd_slice_row {t e : TypeId} {ti ei : TyI} {x : Operand} {lo hi : Option Operand} {id off len es : Nat} {xs : List AV} {fz : Bool} (ht : C.ty t = some ti) (hd : ti.desc = .slice e) (he : C.ty e = some ei) (ho : o.op = .slice t x lo hi none)
    (hx : ρ x = .row id off len) (hs : σ.get id = some (.row es xs fz)) :
    Snd C o ρ σ ⟨okI ρ lo ∧ okI ρ hi ∧ valI ρ 0 lo ≤ valI ρ len hi ∧ valI ρ len hi ≤ len ∧ es = ei.size, .row id (off + valI ρ 0 lo) (valI ρ len hi - valI ρ 0 lo), σ⟩ :=
  snd_pure fun ⟨c1, c2, c3, c4, c5⟩ w0 G a w hi' hr => by
    have hp := hr x (by simp [ho, Op.operands])
    rw [hx] at hp
    cases hv : a.eval x with
    | slice ad len' cap =>
      rw [hv] at hp
      cases hp with
      | row _ _ _ _ o' B hj hc h =>
        obtain ⟨_, vs, ty, g1, g2, g3, _⟩ := hi'.obj id _ B hs hj
        have hb := run_bounds (P := C.P) (G := G) (ρ := ρ) (f := a.eval) (lo := lo) (hi := hi) w true len cap (fun y hy => hr y (by simp [ho, Op.operands, hy])) (fun y hy => hr y (by simp [ho, Op.operands, hy])) c1 c2 c3 (by omega)
        refine ⟨.slice (if cap = valI ρ 0 lo then some ⟨B.b, o', none⟩ else some ((⟨B.b, o', none⟩ : Addr).add (valI ρ 0 lo * ei.size))) (valI ρ len hi - valI ρ 0 lo) (cap - valI ρ 0 lo), by simp [execOp, ho, Instr.sliceAt, Instr.slice, C.run_und ht, hd, hv, hb, C.run_size he], ?_⟩
        generalize valI ρ 0 lo = l at *
        generalize valI ρ len hi = h' at *
        by_cases e : cap = l
        · have z1 : h' - l = 0 := by omega
          have z2 : cap - l = 0 := by omega
          simp only [e, if_true]
          rw [show l - l = 0 by omega, z1]
          exact .row _ _ _ _ _ B hj (Nat.le_refl _) (.inr ⟨rfl, rfl⟩)
        · simp only [e, if_false, add_at]
          refine .row _ _ _ _ _ B hj (by omega) (.inl ?_)
          rcases h with ⟨h1, h2⟩ | ⟨h1, h2⟩
          · rw [← c5, ← g3, h1, Nat.add_mul]
            refine ⟨by omega, ?_⟩
            rw [← h2, h1, Nat.sub_mul]
            have : l * B.es ≤ cap * B.es := Nat.mul_le_mul_right _ (by omega)
            omega
          · omega
    | _ => rw [hv] at hp; cases hp

/-! ### append -/
/-- What is appended: the value at operand x is a slice or string whose elements are ys. -/
structure Src (C : Cx) (G : Gh) (w : World) (t2 : TypeId) (es : Nat) (X : Value) (ys : List AV) : Prop where
  ty : ∃ i, C.ty t2 = some i ∧ ∀ k, i.desc ≠ .int k
  len : (Builtin.lenOf X).run C.P w = .ok ys.length w
  cells : ∀ w', w'.heap = w.heap → ∃ news : List Value, (Builtin.firstCells es ys.length X).run C.P w' = .ok news.toArray w' ∧ CR G (flat ys) news.toArray ∧ (∀ v ∈ news, v.oneCell' = true)
  el : ∀ y ∈ ys, y.cells.length = es

theorem run_firstCells {P : Program} {w : World} (size n : Nat) (xa : Option Addr) (c : Nat) (news : List Value) (hl : news.length = n * size) (h : ∀ j v, news[j]? = some v → ∃ a, xa = some a ∧ w.cell? (a.add j) = some v) :
    (Builtin.firstCells size n (.slice xa n c)).run P w = .ok news.toArray w := by
  cases xa with
  | none =>
    have : news = [] := by
      cases news with
      | nil => rfl
      | cons v vs => obtain ⟨a, ha, _⟩ := h 0 v (by simp); cases ha
    subst this
    simp [Builtin.firstCells]
  | some a =>
    simp only [Builtin.firstCells]
    rw [← hl]
    exact run_loadCells_list w a news fun j v hj => by
      obtain ⟨a', ha, hc⟩ := h j v hj
      cases ha; exact hc

/-- The cells of a list, as values. -/
theorem list_cells {G : Gh} {f : Bool} {xs : List AV} {ad : Option Addr} {len cap es : Nat} (h : Rep G (.list f xs) (.slice ad len cap)) (hel : ∀ x ∈ xs, x.cells.length = es) (hone : ∀ x ∈ xs, x.cells.all AV.one = true) :
    ∃ news : List Value, CR G (flat xs) news.toArray ∧ (∀ v ∈ news, v.oneCell' = true) ∧ ∀ j v, news[j]? = some v → ∃ b o, ad = some ⟨b, o, none⟩ ∧ G.I b (o + j) = some v := by
  cases h with
  | list0 => exact ⟨[], ⟨rfl, fun i c h => by simp [flat] at h⟩, fun v hv => by simp at hv, fun j v hj => by simp at hj⟩
  | list _ _ b o _ _ es' vs hl hc hf hs hI hv =>
    obtain ⟨f1, f2⟩ := flat_get hel
    by_cases h0 : xs = []
    · subst h0; exact ⟨[], ⟨rfl, fun i c h => by simp [flat] at h⟩, fun v hv => by simp at hv, fun j v hj => by simp at hj⟩
    have hes : es' = es := by
      have hp : 0 < xs.length := List.length_pos_iff.2 h0
      rw [← hs 0 _ (List.getElem?_eq_getElem hp)]
      exact hel _ (List.getElem_mem hp)
    subst hes
    have key : ∀ j, j < xs.length * es' → 0 < es' ∧ j / es' < xs.length ∧ j % es' < es' ∧ j / es' * es' + j % es' = j := by
      intro j hj
      have hpos : 0 < es' := by
        rcases Nat.eq_zero_or_pos es' with h | h
        · subst h; simp at hj
        · exact h
      refine ⟨hpos, Nat.div_lt_of_lt_mul (by rw [Nat.mul_comm]; exact hj), Nat.mod_lt _ hpos, by rw [Nat.mul_comm]; exact Nat.div_add_mod _ _⟩
    refine ⟨(List.range (xs.length * es')).map fun j => vs (j / es') (j % es'), ⟨by simp [f1], fun j c hj => ?_⟩, fun v hvm => ?_, fun j v hj => ⟨b, o, rfl, ?_⟩⟩
    · have hlt : j < xs.length * es' := by rw [← f1]; exact (List.getElem?_eq_some_iff.1 hj).1
      obtain ⟨k0, k1, k2, k3⟩ := key j hlt
      have hx := List.getElem?_eq_getElem k1
      have hk2 : j % es' < (xs[j / es']).cells.length := by rw [hel _ (List.getElem_mem k1)]; exact k2
      have hcc := f2 _ _ _ _ hx (List.getElem?_eq_getElem hk2)
      rw [k3, hj] at hcc
      cases hcc
      refine ⟨vs (j / es') (j % es'), by simp [hlt], hv _ _ _ _ hx (List.getElem?_eq_getElem hk2)⟩
    · obtain ⟨j, hj, rfl⟩ := List.mem_map.1 hvm
      obtain ⟨k0, k1, k2, k3⟩ := key j (List.mem_range.1 hj)
      have hk2 : j % es' < (xs[j / es']).cells.length := by rw [hel _ (List.getElem_mem k1)]; exact k2
      exact (hv _ _ _ _ (List.getElem?_eq_getElem k1) (List.getElem?_eq_getElem hk2)).one (List.all_eq_true.1 (hone _ (List.getElem_mem k1)) _ (List.getElem_mem hk2))
    · have hlt : j < xs.length * es' := by simpa using (List.getElem?_eq_some_iff.1 hj).1
      obtain ⟨k0, k1, k2, k3⟩ := key j hlt
      simp only [List.getElem?_map, List.getElem?_range hlt, Option.map_some, Option.some.injEq] at hj
      subst hj
      have := hI (j / es') (j % es') (by omega) k2
      rwa [k3] at this

theorem src_list {w0 w : World} {G : Gh} {t2 : TypeId} {i2 : TyI} {e2 : TypeId} {es : Nat} {f : Bool} {ys : List AV} {X : Value} (hi : Inv C.gl w0 G σ w) (ht2 : C.ty t2 = some i2) (hd2 : i2.desc = .slice e2)
    (h : Rep G (.list f ys) X) (hel : ∀ x ∈ ys, x.cells.length = es) (hone : ∀ x ∈ ys, x.cells.all AV.one = true) : Src C G w t2 es X ys := by
  cases hv : X with
  | slice ad len cap =>
    rw [hv] at h
    have hl : len = ys.length := by cases h <;> first | rfl | (symm; assumption)
    subst hl
    obtain ⟨news, n1, n2, n3⟩ := list_cells h hel hone
    refine ⟨⟨i2, ht2, by rw [hd2]; intro k hk; cases hk⟩, by simp [Builtin.lenOf], fun w' hw' => ⟨news, ?_, n1, n2⟩, hel⟩
    refine run_firstCells es _ ad cap news (by rw [← (flat_get hel).1, ← n1.1]; simp) fun j v hj => ?_
    obtain ⟨b, o, rfl, hI⟩ := n3 j v hj
    refine ⟨_, rfl, ?_⟩
    rw [add_at]
    exact (World.cell?_of_block (w := w) (a := ⟨b, o + j, none⟩) (by rw [hw'])).trans (hi.imm _ _ _ hI)
  | _ => rw [hv] at h; cases h

/-- The cells of a part of an owned row. -/
theorem row_cells {w0 w : World} {G : Gh} {id off len es : Nat} {xs : List AV} {fz : Bool} {ad : Option Addr} {cap : Nat} (hi : Inv C.gl w0 G σ w) (hs : σ.get id = some (.row es xs fz)) (h : Rep G (.row id off len) (.slice ad len cap))
    (hfit : off + len ≤ xs.length) (hone : ∀ x ∈ xs, x.cells.all AV.one = true) :
    ∃ news : List Value, CR G (flat ((xs.drop off).take len)) news.toArray ∧ (∀ v ∈ news, v.oneCell' = true) ∧ (∀ x ∈ (xs.drop off).take len, x.cells.length = es) ∧ ∀ j v, news[j]? = some v → ∃ a, ad = some a ∧ w.cell? (a.add j) = some v := by
  cases h with
  | row _ _ _ _ o' B hj hc h =>
    obtain ⟨_, vs, ty, g1, g2, g3, g4, g5, g6, g7⟩ := hi.obj id _ B hs hj
    have hel : ∀ x ∈ (xs.drop off).take len, x.cells.length = es := fun x hx => by
      obtain ⟨k, hk⟩ := List.getElem?_of_mem (List.mem_of_mem_drop (List.mem_of_mem_take hx))
      exact g5 k x hk
    obtain ⟨f1, f2⟩ := flat_get hel
    have hlen : ((xs.drop off).take len).length = len := by simp; omega
    rw [hlen] at f1
    have key : ∀ j, j < len * es → ∃ v c, vs[o' + j]? = some v ∧ (flat ((xs.drop off).take len))[j]? = some c ∧ Rep G c v ∧ v.oneCell' = true := by
      intro j hj'
      have hpos : 0 < es := by
        rcases Nat.eq_zero_or_pos es with h | h
        · subst h; simp at hj'
        · exact h
      have k1 : j / es < len := Nat.div_lt_of_lt_mul (by rw [Nat.mul_comm]; exact hj')
      have k2 := Nat.mod_lt j hpos
      have k3 : j / es * es + j % es = j := by rw [Nat.mul_comm]; exact Nat.div_add_mod _ _
      have hx := List.getElem?_eq_getElem (l := xs) (i := off + j / es) (by omega)
      have hk2 : j % es < (xs[off + j / es]).cells.length := by rw [g5 _ _ hx]; exact k2
      have hc' := List.getElem?_eq_getElem hk2
      obtain ⟨v, hv, hr⟩ := g6 _ _ _ _ hx hc'
      have hx2 : ((xs.drop off).take len)[j / es]? = some (xs[off + j / es]) := by rw [List.getElem?_take, if_pos k1, List.getElem?_drop]; exact hx
      have := f2 _ _ _ _ hx2 hc'
      rw [k3] at this
      refine ⟨v, _, ?_, this, hr, hr.one (List.all_eq_true.1 (hone _ (List.getElem_mem (by omega))) _ (List.getElem_mem hk2))⟩
      rcases h with ⟨h1, _⟩ | ⟨h1, _⟩
      · rw [← hv, h1, g3]; congr 1; rw [Nat.add_mul]; omega
      · subst h1; simp at hj'
    refine ⟨(List.range (len * es)).map fun j => (vs[o' + j]?).getD undef, ⟨by simp [f1], fun j c hj' => ?_⟩, fun v hvm => ?_, hel, fun j v hj' => ⟨_, rfl, ?_⟩⟩
    · have hlt : j < len * es := by rw [← f1]; exact (List.getElem?_eq_some_iff.1 hj').1
      obtain ⟨v, c', h1, h2, h3, _⟩ := key j hlt
      rw [hj'] at h2; cases h2
      exact ⟨v, by simp [hlt, h1], h3⟩
    · obtain ⟨j, hj', rfl⟩ := List.mem_map.1 hvm
      obtain ⟨v, c', h1, h2, h3, h4⟩ := key j (List.mem_range.1 hj')
      rw [h1]; exact h4
    · have hlt : j < len * es := by simpa using (List.getElem?_eq_some_iff.1 hj').1
      obtain ⟨v', c', h1, h2, h3, h4⟩ := key j hlt
      simp only [List.getElem?_map, List.getElem?_range hlt, Option.map_some, Option.some.injEq, h1, Option.getD_some] at hj'
      subst hj'
      rw [add_at, cell_at g1, h1]

theorem src_row {w0 w : World} {G : Gh} {t2 : TypeId} {i2 : TyI} {e2 : TypeId} {id off len es : Nat} {xs : List AV} {fz : Bool} {X : Value} (hi : Inv C.gl w0 G σ w) (ht2 : C.ty t2 = some i2) (hd2 : i2.desc = .slice e2)
    (hs : σ.get id = some (.row es xs fz)) (h : Rep G (.row id off len) X) (hfit : off + len ≤ xs.length) (hone : ∀ x ∈ xs, x.cells.all AV.one = true) : Src C G w t2 es X ((xs.drop off).take len) := by
  cases hv : X with
  | slice ad len' cap =>
    rw [hv] at h
    have hl : len' = len := by cases h; rfl
    subst hl
    obtain ⟨news, n1, n2, n3, n4⟩ := row_cells hi hs h hfit hone
    have hlen : ((xs.drop off).take len').length = len' := by simp; omega
    refine ⟨⟨i2, ht2, by rw [hd2]; intro k hk; cases hk⟩, by rw [hlen]; simp [Builtin.lenOf], fun w' hw' => ⟨news, ?_, n1, n2⟩, n3⟩
    rw [hlen]
    refine run_firstCells es _ ad cap news (by have := n1.1; rw [(flat_get n3).1, hlen] at this; simpa using this) fun j v hj => ?_
    obtain ⟨a, ha, hc⟩ := n4 j v hj
    exact ⟨a, ha, (World.cell?_of_block (w := w) (a := a.add j) (by rw [hw'])).trans hc⟩
  | _ => rw [hv] at h; cases h

/-- The bytes of a string, as elements. -/
def bytesAV (s : ByteArray) : List AV := s.data.toList.map fun b => .int .u8 (b.toNat : Int)

theorem flat_ones {xs : List AV} (h : ∀ x ∈ xs, x.cells = [x]) : flat xs = xs := by
  induction xs with
  | nil => rfl
  | cons x xs ih =>
    simp only [flat, List.flatMap_cons] at ih ⊢
    rw [h x (by simp), ih fun y hy => h y (by simp [hy])]; rfl

theorem src_str {w : World} {G : Gh} {t2 : TypeId} {i2 : TyI} {s : ByteArray} {X : Value} (ht2 : C.ty t2 = some i2) (hd2 : i2.desc = .string) (h : Rep G (.str s) X) : Src C G w t2 1 X (bytesAV s) := by
  rw [h.isStr]
  have hlen : (bytesAV s).length = s.size := by simp [bytesAV]
  have hfl : flat (bytesAV s) = bytesAV s := flat_ones fun x hx => by
    obtain ⟨b, _, rfl⟩ := List.mem_map.1 hx; rfl
  refine ⟨⟨i2, ht2, by rw [hd2]; intro k hk; cases hk⟩, by rw [hlen]; simp [Builtin.lenOf], fun w' hw' => ⟨s.data.toList.map fun b => .int .u8 (b.toNat : Int), ?_, ⟨by rw [hfl, hlen]; simp, fun i c hc => ?_⟩, fun v hv => ?_⟩, fun y hy => ?_⟩
  · rw [hlen]
    simp only [Builtin.firstCells, Sem.run_pure]
    have : s.extract 0 s.size = s := by
      simp
    rw [this]
    congr 1
    apply Array.ext'
    simp
  · rw [hfl] at hc
    simp only [bytesAV, List.getElem?_map] at hc ⊢
    cases hb : s.data.toList[i]? with
    | none => simp [hb] at hc
    | some b =>
      simp only [hb, Option.map_some, Option.some.injEq] at hc
      subst hc
      have hb2 : s.data[i]? = some b := by rw [← Array.getElem?_toList]; exact hb
      exact ⟨.int .u8 b.toNat, by simp [hb2], .int _ _⟩
  · obtain ⟨b, _, rfl⟩ := List.mem_map.1 hv; rfl
  · obtain ⟨b, _, rfl⟩ := List.mem_map.1 hy; rfl

/-- append that must make a new array. -/
theorem run_append_new {t t2 e ty : TypeId} {ti ei : TyI} {w : World} {G : Gh} {X : Value} {ys : List AV} (ht : C.ty t = some ti) (hd : ti.desc = .slice e) (he : C.ty e = some ei) (hX : Src C G w t2 ei.size X ys)
    (base : Option Addr) (sLen sCap : Nat) (olds : List Value) (hol : olds.length = sLen * ei.size) (holds : ∀ w', w'.heap = w.heap → (Builtin.firstCells ei.size sLen (.slice base sLen sCap)).run C.P w' = .ok olds.toArray w')
    (hg : sCap < sLen + ys.length) (h63 : sLen + ys.length ≤ 9223372036854775807) (hb : (sLen + ys.length) * ei.bytes ≤ 140737488355328) :
    ∃ (cap : Nat) (news : List Value) (zs : Array Value), sLen + ys.length ≤ cap ∧ CR G (flat ys) news.toArray ∧ zs.size = (cap - (sLen + ys.length)) * ei.zero.cells.size ∧
      (Builtin.append_ #[t, t2] ty #[.slice base sLen sCap, X]).run C.P w = .ok (.slice (some ⟨w.heap.size, 0, none⟩) (sLen + ys.length) cap) (w.drew.alloc (.cells (olds.toArray ++ news.toArray ++ zs) e)) := by
  obtain ⟨i2, hi2, hni⟩ := hX.ty
  obtain ⟨news, n1, n2, n3⟩ := hX.cells w.drew rfl
  obtain ⟨hu, r, r1, r2, r3, r4⟩ := C.ok e ei he
  have hn : ¬ (sLen + ys.length ≤ sCap) := by omega
  have h63' : ¬ (((sLen + ys.length : Nat) : Int) > IntKind.i64.max) := by
    have : IntKind.i64.max = 9223372036854775807 := by decide
    rw [this]; omega
  have h48 : ¬ (Builtin.nextslicecap (sLen + ys.length) sCap * ei.bytes > 2 ^ 48) := by
    have h2 : Builtin.nextslicecap (sLen + ys.length) sCap ≤ 2 * (sLen + ys.length) := by
      unfold Builtin.nextslicecap
      split
      · omega
      · split
        · omega
        · have key : ∀ (r c : Nat), c ≤ 2 * (sLen + ys.length) → 256 ≤ c → Builtin.growBy (sLen + ys.length) r c ≤ 2 * (sLen + ys.length) := by
            intro r
            induction r with
            | zero => intro c hc _; simpa [Builtin.growBy] using hc
            | succ r ih =>
              intro c hc h2
              simp only [Builtin.growBy]
              split
              · exact hc
              · exact ih _ (by omega) (by omega)
          exact key 4 sCap (by omega) (by omega)
    have : Builtin.nextslicecap (sLen + ys.length) sCap * ei.bytes ≤ 2 * (sLen + ys.length) * ei.bytes := Nat.mul_le_mul_right _ h2
    rw [Nat.mul_assoc] at this
    omega
  refine ⟨grownCap w (sLen + ys.length) sCap e, news, Builtin.zeroCells ei.zero.cells (grownCap w (sLen + ys.length) sCap e - (sLen + ys.length)), grownCap_ge _ _ _ _, n2, size_zeroCells _ _, ?_⟩
  have hcut : (choose (.appendCap (sLen + ys.length) sCap e)).run C.P w = .ok (grownCap w (sLen + ys.length) sCap e) w.drew := by
    simp [Question.forced, grownCap]
  have hbytes : ∀ w, (typeInfo e).run C.P w = .ok r w := fun w => by simp [typeInfo, r1]
  have hask : ∀ (n : Nat) (w : World), (askRoom n).run C.P w = .ok () w := fun n w => by
    unfold askRoom
    split <;> simp [mark, Sem.run]
  rw [← r3] at h48
  simp only [Builtin.append_, List.getElem?_toArray, List.getElem?_cons_zero, List.getElem?_cons_succ, Sem.run_bind, C.run_und ht, Result.andThen_ok, hd, C.run_size he, C.run_und hi2]
  have hz : (match i2.desc with | .int _ => true | _ => false) = false := by
    cases hd2 : i2.desc with
    | int k => exact absurd hd2 (hni k)
    | _ => rfl
  simp only [Sem.run_bind, C.run_und hi2, Result.andThen_ok, Sem.run_pure, hz, Bool.false_eq_true, if_false, hX.len, hn, h63', false_and, hbytes, h48, Bool.not_false, if_true, hcut, hask, holds w.drew rfl, n1, C.run_zero he]
  simp [newRow, newObj, Sem.run]
  rfl

theorem flat_append (xs ys : List AV) : flat (xs ++ ys) = flat xs ++ flat ys := by simp [flat]

theorem CR.append {G : Gh} {xs ys : List AV} {vs ws : Array Value} (h : CR G xs vs) (k : CR G ys ws) : CR G (xs ++ ys) (vs ++ ws) := by
  refine ⟨by simp [h.1, k.1], fun i c hc => ?_⟩
  rw [List.getElem?_append] at hc
  rw [Array.getElem?_append, h.1]
  split at hc
  · rename_i hlt; rw [if_pos hlt]; exact h.2 i c hc
  · rename_i hlt; rw [if_neg hlt]; exact k.2 _ c hc

/-- A new row. -/
theorem new_row {gl : Nat → List AV} {w0 w : World} {G : Gh} {σ : Sto} (h : Inv gl w0 G σ w) {xs : List AV} {es : Nat} {vs : Array Value} (hel : ∀ x ∈ xs, x.cells.length = es) (hcr : CR G (flat xs) vs) (zs : Array Value) (e : TypeId) (cap : Nat)
    (hz : (vs ++ zs).size = cap * es) (hc : xs.length ≤ cap) :
    ∃ G', Rep G' (.row σ.next 0 xs.length) (.slice (some ⟨w.heap.size, 0, none⟩) xs.length cap) ∧ Inv gl w0 G' (σ.add (.row es xs false)) (w.alloc (.cells (vs ++ zs) e)) ∧ Ext G σ w G' (σ.add (.row es xs false)) (w.alloc (.cells (vs ++ zs) e)) := by
  have hle := Gh.le_new (G := G) (id := σ.next) ⟨w.heap.size, 0, cap * es, es⟩ (h.fresh _ (Nat.le_refl _))
  refine ⟨G.new σ.next ⟨w.heap.size, 0, cap * es, es⟩, .row _ _ _ _ _ ⟨w.heap.size, 0, cap * es, es⟩ (by simp [Gh.new]) hc (.inl ⟨by simp, by simp⟩), ?_, Ext.new h (σ.next + 1) _ _ _ (by omega) rfl⟩
  refine Inv.new h σ.next (σ.next + 1) (.row es xs false) _ _ (by omega) (by omega) (h.fresh _ (Nat.le_refl _)) rfl ?_
  refine ⟨vs ++ zs, e, heap_alloc_new w _, hz, rfl, by simp only [Nat.zero_add]; exact Nat.mul_le_mul_right _ hc, fun i x hx => hel x (mem_of_get hx), fun i x k c hx hc' => ?_, fun k _ => ?_⟩
  · obtain ⟨u, hu, hr⟩ := hcr.flat hel i x k c hx hc'
    refine ⟨u, ?_, hr.mono hle⟩
    show (vs ++ zs)[0 + i * es + k]? = some u
    rw [Nat.zero_add, Array.getElem?_append, if_pos (Array.getElem?_eq_some_iff.1 hu).1]
    exact hu
  · show G.I w.heap.size k = _
    simp only [Bool.false_eq_true, false_and, if_false]
    cases hI : G.I w.heap.size k with
    | none => rfl
    | some v => have := h.imm_lt hI; omega

/-- append to a list whose capacity is its length. -/
theorem snd_append_full {t t2 e : TypeId} {ti ei : TyI} {s x : Operand} {xs ys : List AV} (ht : C.ty t = some ti) (hd : ti.desc = .slice e) (he : C.ty e = some ei) (ho : o.op = .call { callee := .builtin .append, args := #[s, x], argTypes := #[t, t2] })
    (hs : ρ s = .list true xs) (hsrc : ∀ w0 G a w, Inv C.gl w0 G σ w → Rep G (ρ x) (Act.eval a x) → Src C G w t2 ei.size (a.eval x) ys) :
    Snd C o ρ σ ⟨ys ≠ [] ∧ (∀ x ∈ xs, x.cells.length = ei.size) ∧ (∀ x ∈ xs, x.cells.all AV.one = true) ∧ ei.zero.cells.size = ei.size ∧ (xs.length + ys.length) * ei.bytes ≤ 140737488355328 ∧ xs.length + ys.length ≤ 9223372036854775807,
      .row σ.next 0 (xs.length + ys.length), σ.add (.row ei.size (xs ++ ys) false)⟩ := by
  rintro ⟨hy, hel, hone, hz, hb, h63⟩ w0 G a w hi hr
  have hp := hr s (by simp [ho, Op.operands, Call.operands])
  have hX := hsrc w0 G a w hi (hr x (by simp [ho, Op.operands, Call.operands]))
  rw [hs] at hp
  cases hv : a.eval s with
  | slice ad len cap =>
    rw [hv] at hp
    have hl : len = xs.length ∧ cap = len := by
      cases hp with
      | list0 _ _ _ h => exact ⟨rfl, h rfl⟩
      | list _ _ _ _ _ _ _ _ h1 _ h2 _ _ _ => exact ⟨h1.symm, h2 rfl⟩
    obtain ⟨rfl, rfl⟩ := hl
    obtain ⟨olds, o1, o2, o3⟩ := list_cells hp hel hone
    have hpos : 0 < ys.length := List.length_pos_iff.2 hy
    have hol : olds.length = xs.length * ei.size := by have := o1.1; rw [(flat_get hel).1] at this; simpa using this
    obtain ⟨cap', news, zs, g1, g2, g3, g4⟩ := run_append_new (ty := o.type) ht hd he hX ad xs.length xs.length olds hol (fun w' hw' => run_firstCells ei.size _ ad _ olds hol fun j v hj => by
      obtain ⟨b, o', rfl, hI⟩ := o3 j v hj
      refine ⟨_, rfl, ?_⟩
      rw [add_at]
      exact (World.cell?_of_block (w := w) (a := ⟨b, o' + j, none⟩) (by rw [hw'])).trans (hi.imm _ _ _ hI)) (by omega) h63 hb
    have hi2 : Inv C.gl w0 G σ w.drew := hi.heap rfl rfl rfl rfl
    have helall : ∀ z ∈ xs ++ ys, z.cells.length = ei.size := fun z hz' => by
      rcases List.mem_append.1 hz' with h | h
      · exact hel z h
      · exact hX.el z h
    have hcr : CR G (flat (xs ++ ys)) (olds.toArray ++ news.toArray) := by rw [flat_append]; exact o1.append g2
    have hsz : (olds.toArray ++ news.toArray ++ zs).size = cap' * ei.size := by
      have h1 := hcr.1
      rw [(flat_get helall).1] at h1
      rw [Array.size_append, h1, g3, hz, ← Nat.add_mul]; congr 1; simp; omega
    obtain ⟨G', r1, r2, r3⟩ := new_row hi2 helall hcr zs e cap' hsz (by simp; omega)
    simp only [List.length_append] at r1
    exact ⟨G', _, _, _, by simp only [execOp, ho, resolve, invoke, builtin, Sem.run_bind, Sem.run_pure, Result.andThen_ok]; simp only [List.map_toArray, List.map_cons, List.map_nil, hv]; rw [g4]; rfl, .inl rfl, r1, r2, (Ext.heap (w := w) (w' := w.drew) G σ rfl).trans r3⟩
  | _ => rw [hv] at hp; cases hp

end ops
end Go.Lg
