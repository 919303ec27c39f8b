/- Lg, part G: append to an owned row, make, bytes as a string, and an owned row that becomes a list for good. -/
import Derived.Test.YtndchmmclfidgaaDoorLgF
import Derived.IntWalk
set_option linter.unusedVariables false
set_option linter.unusedSimpArgs false
namespace Go.Lg
open Go.RowKit

/-- An owned row under a new number, seen from element 'off' on. -/
theorem row_rename {gl : Nat → List AV} {w0 w : World} {G : Gh} {σ : Sto} (h : Inv gl w0 G σ w) {id off es : Nat} {xs : List AV} {B : Blk} (hs : σ.get id = some (.row es xs false)) (hj : G.j id = some B) (hoff : off ≤ xs.length) :
    Inv gl w0 (G.new σ.next ⟨B.b, B.o0 + off * es, B.sz, es⟩) ((σ.del id).add (.row es (xs.drop off) false)) w ∧
    Ext G σ w (G.new σ.next ⟨B.b, B.o0 + off * es, B.sz, es⟩) ((σ.del id).add (.row es (xs.drop off) false)) w := by
  have hle := Gh.le_new (G := G) (id := σ.next) ⟨B.b, B.o0 + off * es, B.sz, es⟩ (h.fresh _ (Nat.le_refl _))
  obtain ⟨hb, vs, ty, g1, g2, g3, g4, g5, g6, g7⟩ := h.obj id _ B hs hj
  have hid := h.live id _ hs
  have hmul : off * es + (xs.length - off) * es = xs.length * es := by rw [← Nat.add_mul]; congr 1; omega
  have get : ∀ i o, ((σ.del id).add (.row es (xs.drop off) false)).get i = some o → (i = σ.next ∧ o = .row es (xs.drop off) false) ∨ (i ≠ σ.next ∧ i ≠ id ∧ σ.get i = some o) := by
    intro i o hi
    have hi' : (if i = σ.next then some (AObj.row es (xs.drop off) false) else if i = id then none else σ.get i) = some o := hi
    by_cases e : i = σ.next
    · rw [if_pos e] at hi'; cases hi'; exact .inl ⟨e, rfl⟩
    · rw [if_neg e] at hi'
      by_cases e2 : i = id
      · rw [if_pos e2] at hi'; cases hi'
      · rw [if_neg e2] at hi'; exact .inr ⟨e, e2, hi'⟩
  constructor
  · exact {
      below := h.below
      imm := h.imm
      gl := fun g k c hc => (h.gl g k c hc).imp fun v hv => ⟨hv.1, hv.2.mono hle⟩
      live := fun i o hi => by
        show i < σ.next + 1
        rcases get i o hi with ⟨rfl, _⟩ | ⟨_, _, hi'⟩
        · omega
        · have := h.live i o hi'; omega
      obj := fun i o B' hi hj' => by
        simp only [Gh.new] at hj'
        rcases get i o hi with ⟨rfl, rfl⟩ | ⟨e1, e2, hi'⟩
        · rw [if_pos rfl] at hj'; cases hj'
          refine ⟨hb, vs, ty, g1, g2, rfl, ?_, fun i x hx => ?_, fun i x k c hx hc => ?_, fun k hk => ?_⟩
          · simp only [List.length_drop]; omega
          · rw [List.getElem?_drop] at hx; exact g5 _ x hx
          · rw [List.getElem?_drop] at hx
            obtain ⟨v, hv, hr⟩ := g6 _ x k c hx hc
            refine ⟨v, ?_, hr.mono hle⟩
            rw [← hv]; congr 1; simp only; rw [Nat.add_mul]; omega
          · simp only at hk ⊢
            simp only [Bool.false_eq_true, false_and, if_false]
            have := g7 k (by omega)
            simp only [Bool.false_eq_true, false_and, if_false] at this
            exact this
        · rw [if_neg e1] at hj'
          exact ⟨(h.obj i o B' hi' hj').1, (h.obj i o B' hi' hj').2.keep hle rfl fun _ => rfl⟩
      fresh := fun i hi => by
        simp only [Gh.new]
        have : σ.next + 1 ≤ i := hi
        rw [if_neg (by omega)]; exact h.fresh i (by omega)
      inj := fun i i' o o' B1 B2 h1 h2 h3 h4 hbb => by
        simp only [Gh.new] at h3 h4
        rcases get i o h1 with ⟨rfl, _⟩ | ⟨e1, e2, hi1⟩ <;> rcases get i' o' h2 with ⟨rfl, _⟩ | ⟨e1', e2', hi2⟩
        · rfl
        · rw [if_pos rfl] at h3; cases h3
          rw [if_neg e1'] at h4
          exact absurd (h.inj i' id _ _ B2 B hi2 hs h4 hj hbb.symm) e2'
        · rw [if_pos rfl] at h4; cases h4
          rw [if_neg e1] at h3
          exact absurd (h.inj i id _ _ B1 B hi1 hs h3 hj hbb) e2
        · rw [if_neg e1] at h3
          rw [if_neg e1'] at h4
          exact h.inj i i' o o' B1 B2 hi1 hi2 h3 h4 hbb
      has := fun i o hi hn => by
        simp only [Gh.new]
        rcases get i o hi with ⟨rfl, rfl⟩ | ⟨e1, e2, hi'⟩
        · rw [if_pos rfl]; exact ⟨_, rfl⟩
        · rw [if_neg e1]; exact h.has i o hi' hn
      freshT := fun i hi => h.freshT i (by have : σ.next + 1 ≤ i := hi; omega)
      tok := h.tok.step rfl (fun i es' n hi => by
          rcases get i _ hi with ⟨rfl, e⟩ | ⟨e1, e2, hi'⟩
          · cases e
          · exact hi') (fun _ _ _ => ⟨rfl, fun _ => rfl⟩) (fun i b hbt i' o' B1 h1 h2 => by
          simp only [Gh.new] at h2
          rcases get i' o' h1 with ⟨rfl, rfl⟩ | ⟨e1, e2, hi'⟩
          · rw [if_pos rfl] at h2; cases h2; exact h.tok.oj i b hbt id _ B hs hj
          · rw [if_neg e1] at h2; exact h.tok.oj i b hbt i' o' B1 hi' h2) }
  · exact {
      le := hle
      size := Nat.le_refl _
      keep := fun b hb' hn => ⟨rfl, fun _ => rfl, by
        rintro (⟨i, o, B', hi, hj', rfl⟩ | ⟨i, es', n, T, k, hi, hT, h3⟩)
        · simp only [Gh.new] at hj'
          rcases get i o hi with ⟨rfl, rfl⟩ | ⟨e1, e2, hi'⟩
          · rw [if_pos rfl] at hj'; cases hj'; exact hn (.inl ⟨id, _, B, hs, hj, rfl⟩)
          · rw [if_neg e1] at hj'; exact hn (.inl ⟨i, o, B', hi', hj', rfl⟩)
        · rcases get i _ hi with ⟨rfl, e⟩ | ⟨e1, e2, hi'⟩
          · cases e
          · exact hn (.inr ⟨i, es', n, T, k, hi', hT, h3⟩)⟩
      next := Nat.le_succ _ }

theorem Ext.del {G : Gh} {σ : Sto} {w : World} (id : Nat) : Ext G σ w G (σ.del id) w where
  le := .refl G
  size := Nat.le_refl _
  keep := fun b hb hn => ⟨rfl, fun _ => rfl, by
    rintro (⟨i, o, B, h1, h2, h3⟩ | ⟨i, es, n, T, k, h1, h2⟩)
    · simp only [Sto.del] at h1
      split at h1
      · cases h1
      · exact hn (.inl ⟨i, o, B, h1, h2, h3⟩)
    · simp only [Sto.del] at h1
      split at h1
      · cases h1
      · exact hn (.inr ⟨i, es, n, T, k, h1, h2⟩)⟩
  next := Nat.le_refl _

section ops
variable {C : Cx} {o : Oper} {ρ : Operand → AV} {σ : Sto}

theorem run_append_in {t t2 e ty : TypeId} {ti ei : TyI} {w : World} {G : Gh} {X : Value} {ys : List AV} (ht : C.ty t = some ti) (hd : ti.desc = .slice e) (he : C.ty e = some ei) (hX : Src C G w t2 ei.size X ys)
    (b o sLen sCap : Nat) (vs : Array Value) (ty' : TypeId) (hb : w.heap[b]? = some (.cells vs ty' (0, 0))) (hroom : sLen + ys.length ≤ sCap) (hfit : o + sCap * ei.size ≤ vs.size) :
    ∃ news : List Value, CR G (flat ys) news.toArray ∧
      (Builtin.append_ #[t, t2] ty #[.slice (some ⟨b, o, none⟩) sLen sCap, X]).run C.P w = .ok (.slice (some ⟨b, o, none⟩) (sLen + ys.length) sCap) (w.setRow b (wrV vs (o + sLen * ei.size) news)) := by
  obtain ⟨i2, hi2, hni⟩ := hX.ty
  obtain ⟨news, n1, n2, n3⟩ := hX.cells w rfl
  have hnl : news.length = ys.length * ei.size := by have := n2.1; rw [(flat_get hX.el).1] at this; simpa using this
  have hle : (sLen + ys.length) * ei.size ≤ sCap * ei.size := Nat.mul_le_mul_right _ hroom
  rw [Nat.add_mul] at hle
  have hst := run_storeCells_at C.P b (o + sLen * ei.size) ty' news 0 vs w hb (by omega) n3
  simp only [Nat.add_zero] at hst
  refine ⟨news, n2, ?_⟩
  have hz : (match i2.desc with | .int _ => true | _ => false) = false := by
    cases hd2 : i2.desc with
    | int k => exact absurd hd2 (hni k)
    | _ => rfl
  simp only [Builtin.append_, List.getElem?_toArray, List.getElem?_cons_zero, List.getElem?_cons_succ, Sem.run_bind, C.run_und ht, Result.andThen_ok, hd, C.run_size he, C.run_und hi2]
  simp only [Sem.run_bind, C.run_und hi2, Result.andThen_ok, Sem.run_pure, hz, Bool.false_eq_true, if_false, hX.len, hroom, if_true, Bool.not_false, n1, add_at]
  simp [hst, wrV]

/-- append to an owned row, at its end. -/
theorem snd_append_row {t t2 e : TypeId} {ti ei : TyI} {s x : Operand} {id off len es : Nat} {xs ys : List AV} (ht : C.ty t = some ti) (hd : ti.desc = .slice e) (he : C.ty e = some ei)
    (ho : o.op = .call { callee := .builtin .append, args := #[s, x], argTypes := #[t, t2] }) (hs : ρ s = .row id off len) (hg : σ.get id = some (.row es xs false))
    (hsrc : ∀ w0 G a w, Inv C.gl w0 G σ w → Rep G (ρ x) (Act.eval a x) → Src C G w t2 ei.size (a.eval x) ys) :
    Snd C o ρ σ ⟨off + len = xs.length ∧ es = ei.size ∧ (∀ x ∈ xs, x.cells.all AV.one = true) ∧ ei.zero.cells.size = ei.size ∧ (len + ys.length) * ei.bytes ≤ 140737488355328 ∧ len + ys.length ≤ 9223372036854775807,
      .row σ.next 0 (len + ys.length), (σ.del id).add (.row es (xs.drop off ++ ys) false)⟩ := by
  rintro ⟨hlen, hes, hone, hz, hbb, h63⟩ w0 G a w hi hr
  have hp := hr s (by simp [ho, Op.operands, Call.operands])
  have hX := hsrc w0 G a w hi (hr x (by simp [ho, Op.operands, Call.operands]))
  rw [hs] at hp
  subst hes
  cases hv : a.eval s with
  | slice ad len' cap =>
    rw [hv] at hp
    have hp' := hp
    cases hp with
    | row _ _ _ _ o' B hj hc hcase =>
      obtain ⟨hbase, vs, ty, g1, g2, g3, g4, g5, g6, g7⟩ := hi.obj id _ B hg hj
      have hdl : (xs.drop off).length = len := by simp; omega
      have hmul : off * ei.size + len * ei.size = xs.length * ei.size := by rw [← Nat.add_mul]; congr 1
      by_cases hroom : len + ys.length ≤ cap
      · rcases hcase with ⟨c1, c2⟩ | ⟨rfl, rfl⟩
        · -- in place
          rw [g3] at c1 c2
          obtain ⟨news, n1, n2⟩ := run_append_in (ty := o.type) ht hd he hX B.b o' len cap vs ty g1 hroom (by omega)
          have hnl : news.length = ys.length * ei.size := by have := n1.1; rw [(flat_get hX.el).1] at this; simpa using this
          have hle : (len + ys.length) * ei.size ≤ cap * ei.size := Nat.mul_le_mul_right _ hroom
          rw [Nat.add_mul] at hle
          have hwsz : (wrV vs (o' + len * ei.size) news).size = vs.size := wrV_size (by omega)
          have hset : Inv C.gl w0 G (σ.set id (.row ei.size (xs ++ ys) false)) (w.setRow B.b (wrV vs (o' + len * ei.size) news)) := by
            refine Inv.set hi id _ _ B hg hj rfl rfl rfl (by simp) (fun b' hb' => setRow_other w B.b b' _ hb') (fun k' v' hk' => ?_) ?_
            · have hlo : k' < B.o0 := by
                rcases Nat.lt_or_ge k' B.o0 with h | h
                · exact h
                · rw [g7 k' h] at hk'; simp at hk'
              have hcell := hi.imm _ _ _ hk'
              rw [cell_at g1] at hcell
              rw [cell_at (setRow_heap w B.b vs _ ty _ g1), wrV_get (by omega), if_neg (by omega)]
              exact hcell
            · refine ⟨_, ty, setRow_heap w B.b vs _ ty _ g1, by rw [hwsz, g2], g3, by rw [List.length_append, Nat.add_mul]; omega, fun i x hx => ?_, fun i x k c hx hc => ?_, fun k hk => ?_⟩
              · rw [List.getElem?_append] at hx
                split at hx
                · exact g5 i x hx
                · exact hX.el x (mem_of_get hx)
              · rw [List.getElem?_append] at hx
                split at hx
                · rename_i hlt
                  have hk : k < ei.size := by rw [← g5 i x hx]; exact (List.getElem?_eq_some_iff.1 hc).1
                  have : (i + 1) * ei.size ≤ xs.length * ei.size := Nat.mul_le_mul_right _ hlt
                  rw [Nat.succ_mul] at this
                  rw [wrV_get (by omega), if_neg (by omega)]
                  exact g6 i x k c hx hc
                · rename_i hge
                  have hk : k < ei.size := by rw [← hX.el x (mem_of_get hx)]; exact (List.getElem?_eq_some_iff.1 hc).1
                  have hi2 := (List.getElem?_eq_some_iff.1 hx).1
                  have e1 : (i - xs.length) * ei.size + xs.length * ei.size = i * ei.size := by rw [← Nat.add_mul]; congr 1; omega
                  have : (i - xs.length + 1) * ei.size ≤ ys.length * ei.size := Nat.mul_le_mul_right _ hi2
                  rw [Nat.succ_mul] at this
                  rw [wrV_get (by omega), if_pos (by omega)]
                  obtain ⟨u, hu, hru⟩ := n1.flat hX.el (i - xs.length) x k c hx hc
                  refine ⟨u, ?_, hru⟩
                  rw [← hu, List.getElem?_toArray]; congr 1; omega
              · simp only [Bool.false_eq_true, false_and, if_false]
                simpa using g7 k hk
          have hget : (σ.set id (.row ei.size (xs ++ ys) false)).get id = some (.row ei.size (xs ++ ys) false) := by simp [Sto.set]
          obtain ⟨r1, r2⟩ := row_rename hset (off := off) hget hj (by simp; omega)
          have hsto : ((σ.set id (.row ei.size (xs ++ ys) false)).del id).add (.row ei.size ((xs ++ ys).drop off) false) = (σ.del id).add (.row ei.size (xs.drop off ++ ys) false) := by
            rw [List.drop_append_of_le_length (show off ≤ xs.length by omega)]
            simp only [Sto.add, Sto.del, Sto.set]
            congr 1
            funext i
            by_cases e1 : i = σ.next
            · simp [e1]
            · by_cases e2 : i = id
              · simp [e2]
              · simp [e1, e2]
          rw [hsto] at r1 r2
          refine ⟨_, _, .slice (some ⟨B.b, o', none⟩) (len + ys.length) cap, _, by simp only [execOp, ho, resolve, invoke, builtin, Sem.run_bind, Sem.run_pure, Result.andThen_ok]; simp only [List.map_toArray, List.map_cons, List.map_nil, hv]; rw [n2]; rfl, .inl rfl, ?_, r1, (Ext.set id _ _ B hg hj (by simp) (fun b' hb' => setRow_other w B.b b' _ hb')).trans r2⟩
          exact .row _ _ _ _ _ ⟨B.b, B.o0 + off * ei.size, B.sz, ei.size⟩ (by simp [Gh.new, Sto.set]) hroom (.inl ⟨by simp only [Nat.zero_mul]; omega, c2⟩)
        · -- nothing is appended to nothing
          have hy : ys = [] := List.eq_nil_of_length_eq_zero (by omega)
          subst hy
          obtain ⟨i2, hi2, hni⟩ := hX.ty
          obtain ⟨news, n1, n2, n3⟩ := hX.cells w rfl
          have hnn : news = [] := by have := n2.1; simpa [flat] using this
          subst hnn
          obtain ⟨r1, r2⟩ := row_rename hi (off := off) hg hj (by omega)
          have hm : (match i2.desc with | .int _ => true | _ => false) = false := by
            cases hd2 : i2.desc with
            | int k => exact absurd hd2 (hni k)
            | _ => rfl
          simp only [List.append_nil, List.length_nil, Nat.add_zero] at *
          refine ⟨_, _, .slice (some ⟨B.b, o', none⟩) 0 0, w, ?_, .inl rfl, ?_, r1, r2⟩
          · simp only [execOp, ho, resolve, invoke, builtin, Sem.run_bind, Sem.run_pure, Result.andThen_ok]
            simp only [List.map_toArray, List.map_cons, List.map_nil, hv]
            simp only [Builtin.append_, List.getElem?_toArray, List.getElem?_cons_zero, List.getElem?_cons_succ, Sem.run_bind, C.run_und ht, Result.andThen_ok, hd, C.run_size he, C.run_und hi2]
            simp only [Sem.run_bind, C.run_und hi2, Result.andThen_ok, Sem.run_pure, hm, Bool.false_eq_true, if_false, hX.len, List.length_nil, Nat.add_zero, Nat.le_refl, if_true, Bool.not_false, n1]
            simp [storeCells]
          · exact .row _ _ _ _ _ ⟨B.b, B.o0 + off * ei.size, B.sz, ei.size⟩ (by simp [Gh.new]) (Nat.le_refl _) (.inr ⟨rfl, rfl⟩)
      · -- a new array
        obtain ⟨olds, o1, o2, o3, o4⟩ := row_cells hi hg hp' (by omega) hone
        have htk : (xs.drop off).take len = xs.drop off := List.take_of_length_le (by omega)
        rw [htk] at o1 o3
        have hol : olds.length = len * ei.size := by have := o1.1; rw [(flat_get o3).1, hdl] at this; simpa using this
        obtain ⟨cap', news, zs, n1, n2, n3, n4⟩ := run_append_new (ty := o.type) ht hd he hX (some ⟨B.b, o', none⟩) len cap olds hol (fun w' hw' => run_firstCells ei.size _ _ _ olds hol fun j v hj' => by
          obtain ⟨a', ha, hcc⟩ := o4 j v hj'
          exact ⟨a', ha, (World.cell?_of_block (w := w) (a := a'.add j) (by rw [hw'])).trans hcc⟩) (by omega) h63 hbb
        have hi2 : Inv C.gl w0 G (σ.del id) w.drew := (hi.heap (w' := w.drew) rfl rfl rfl rfl).del id
        have helall : ∀ z ∈ xs.drop off ++ ys, z.cells.length = ei.size := fun z hz' => by
          rcases List.mem_append.1 hz' with h | h
          · exact o3 z h
          · exact hX.el z h
        have hcr : CR G (flat (xs.drop off ++ ys)) (olds.toArray ++ news.toArray) := by rw [flat_append]; exact o1.append n2
        have hlen2 : (xs.drop off ++ ys).length = len + ys.length := by rw [List.length_append, hdl]
        have hsz : (olds.toArray ++ news.toArray ++ zs).size = cap' * ei.size := by
          have h1 := hcr.1
          rw [(flat_get helall).1, hlen2] at h1
          rw [Array.size_append, h1, n3, hz, ← Nat.add_mul]; congr 1; omega
        obtain ⟨G', r1, r2, r3⟩ := new_row hi2 helall hcr zs e cap' hsz (by omega)
        rw [hlen2] at r1
        have hext : Ext G σ w G (σ.del id) w.drew := (Ext.heap (w := w) (w' := w.drew) G σ rfl).trans (Ext.del id)
        exact ⟨G', _, _, _, by simp only [execOp, ho, resolve, invoke, builtin, Sem.run_bind, Sem.run_pure, Result.andThen_ok]; simp only [List.map_toArray, List.map_cons, List.map_nil, hv]; rw [n4]; rfl, .inl rfl, r1, r2, hext.trans r3⟩
  | _ => rw [hv] at hp; cases hp

/-- make([]T, n), make([]T, n, c). -/
theorem snd_makeSlice {t e : TypeId} {ti ei : TyI} {x y : Operand} {k q : IntKind} {n c : Int} (ht : C.ty t = some ti) (hd : ti.desc = .slice e) (he : C.ty e = some ei) (ho : o.op = .makeSlice t x y) (hx : ρ x = .int k n) (hy : ρ y = .int q c) :
    Snd C o ρ σ ⟨0 ≤ n ∧ n ≤ c ∧ c * ei.bytes ≤ 281474976710656 ∧ c ≤ 281474976710656 ∧ (ofV ei.zero).def = true ∧ (ofV ei.zero).cells.length = ei.size ∧ 0 < ei.size,
      .row σ.next 0 n.toNat, σ.add (.row ei.size (List.replicate n.toNat (ofV ei.zero)) false)⟩ := by
  rintro ⟨h0, h1, h2, h3, h4, h5, h6⟩ w0 G a w hi hr
  have e1 := (hr x (by simp [ho, Op.operands])).isInt (by rw [hx]; rfl)
  have e2 := (hr y (by simp [ho, Op.operands])).isInt (by rw [hy]; rfl)
  rw [hx] at e1
  rw [hy] at e2
  simp only [AV.theK, AV.theI] at e1 e2
  obtain ⟨n, rfl⟩ := Int.eq_ofNat_of_zero_le h0
  obtain ⟨c, rfl⟩ := Int.eq_ofNat_of_zero_le (Int.le_trans h0 h1)
  simp only [Int.toNat_natCast] at *
  have hz := ofV_cells G ei.zero h4
  have hzs : ei.zero.cells.size = ei.size := by rw [hz.1, h5]
  have hcr := hz.zeros (by rw [h5]; exact h6) c (ofV ei.zero) rfl
  rw [h5] at hcr
  have wr1 : IntKind.i64.wrap (n : Int) = n := IntWalk.i64_in _ (by omega)
  have wr2 : IntKind.i64.wrap (c : Int) = c := IntWalk.i64_in _ (by omega)
  obtain ⟨hu, r, q1, q2, q3, q4⟩ := C.ok e ei he
  have hrun : (execOp a.eval o).run C.P w = .ok (.value (.slice (some ⟨w.heap.size, 0, none⟩) n c)) (w.alloc (.cells ((Array.range (c * ei.size)).map (fun i => ei.zero.cells[i % ei.zero.cells.size]!)) e)) := by
    have hbytes : ∀ w, (typeInfo e).run C.P w = .ok r w := fun w => by simp [typeInfo, q1]
    have hask : ∀ (n : Nat) (w : World), (askRoom n).run C.P w = .ok () w := fun n w => by
      unfold askRoom
      split <;> simp [mark, Sem.run]
    have t1 : ¬ ((n : Int) > (c : Int)) := by omega
    have t2 : ¬ ((n : Int) < 0) := by omega
    have t3 : ¬ ((c : Int) < 0) := by omega
    have t4 : ¬ ((r.bytes : Int) * (c : Int) > 2 ^ 48) := by
      rw [q3, Int.mul_comm]; omega
    by_cases hz0 : c * ei.size = 0
    · have hc0 : c = 0 := by rcases Nat.mul_eq_zero.1 hz0 with h | h <;> omega
      subst hc0
      have hr0 : ∀ (f : Nat → Value), Array.map f (Array.range (0 * ei.size)) = #[] := fun f => by simp
      have hr1 : ∀ (f : Nat → Value), Array.map f (Array.range 0) = #[] := fun f => by simp
      simp only [execOp, ho, Sem.run_bind, Instr.makeSlice, e1, e2, C.run_und ht, hd, asInt, asIntOf, Sem.run_pure, Result.andThen_ok, hbytes, wr1, wr2, t1, t2, t3, t4, decide_false, Bool.or_false, Bool.false_eq_true, if_false, hask, C.run_size he, hr0]
      simp [newRow, newObj, Sem.run, hr1]
    · simp only [execOp, ho, Sem.run_bind, Instr.makeSlice, e1, e2, C.run_und ht, hd, asInt, asIntOf, Sem.run_pure, Result.andThen_ok, hbytes, wr1, wr2, t1, t2, t3, t4, decide_false, Bool.or_false, Bool.false_eq_true, if_false, hask, C.run_size he]
      simp only [Int.toNat_natCast, hz0, if_false, Sem.run_bind, C.run_zero he, Result.andThen_ok, Sem.run_pure]
      simp [newRow, newObj, Sem.run]
  have hel : ∀ z ∈ List.replicate n (ofV ei.zero), z.cells.length = ei.size := fun z hz => by rw [List.eq_of_mem_replicate hz, h5]
  have hsplit : List.replicate c (ofV ei.zero) = List.replicate n (ofV ei.zero) ++ List.replicate (c - n) (ofV ei.zero) := by rw [List.replicate_append_replicate]; congr 1; omega
  -- the first n of the cells
  let all := (Array.range (c * ei.size)).map (fun i => ei.zero.cells[i % ei.zero.cells.size]!)
  have hall : all.size = c * ei.size := by simp [all]
  have hcr1 : CR G (flat (List.replicate n (ofV ei.zero))) (all.extract 0 (n * ei.size)) := by
    have hle : n * ei.size ≤ c * ei.size := Nat.mul_le_mul_right _ (by omega)
    refine ⟨by rw [(flat_get hel).1, Array.size_extract, hall, List.length_replicate]; omega, fun i d hd' => ?_⟩
    have hlt : i < n * ei.size := by have := (List.getElem?_eq_some_iff.1 hd').1; rw [(flat_get hel).1] at this; simpa using this
    obtain ⟨u, hu', hru⟩ := hcr.2 i d (by rw [hsplit, flat_append, List.getElem?_append_left (List.getElem?_eq_some_iff.1 hd').1]; exact hd')
    refine ⟨u, ?_, hru⟩
    rw [Array.getElem?_extract, if_pos (by rw [hall]; omega), Nat.zero_add]
    exact hu'
  have hjoin : all.extract 0 (n * ei.size) ++ all.extract (n * ei.size) (c * ei.size) = all := by
    have hle : n * ei.size ≤ c * ei.size := Nat.mul_le_mul_right _ (by omega)
    rw [Array.extract_append_extract, Nat.min_eq_left (Nat.zero_le _), Nat.max_eq_right hle, ← hall, Array.extract_size]
  obtain ⟨G', r1, r2, r3⟩ := new_row hi hel hcr1 (all.extract (n * ei.size) (c * ei.size)) e c (by rw [hjoin, hall]) (by simp; omega)
  rw [hjoin] at r2 r3
  simp only [List.length_replicate] at r1
  exact ⟨G', _, _, _, hrun, .inl rfl, r1, r2, r3⟩
end ops
end Go.Lg
