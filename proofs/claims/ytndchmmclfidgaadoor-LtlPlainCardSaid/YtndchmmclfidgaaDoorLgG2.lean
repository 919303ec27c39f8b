/- Lg, part G2: append to a list that is still appended to. -/
import Derived.Test.YtndchmmclfidgaaDoorLgG
set_option linter.unusedVariables false
set_option linter.unusedSimpArgs false
namespace Go.Lg
open Go.RowKit

theorem rep_list_of {G : Gh} {zs : List AV} {es b o len cap : Nat} {cs : Array Value} (hl : zs.length = len) (hel : ∀ z ∈ zs, z.cells.length = es) (hcr : CR G (flat zs) cs)
    (hI : ∀ j v, cs[j]? = some v → G.I b (o + j) = some v) (hc : zs.length ≤ cap) : Rep G (.list false zs) (.slice (some ⟨b, o, none⟩) len cap) := by
  subst hl
  refine .list false zs b o zs.length cap es (fun i k => (cs[i * es + k]?).getD undef) rfl hc (fun h => by cases h) (fun i x hx => hel x (mem_of_get hx)) (fun i k hi hk => ?_) (fun i x k c hx hc' => ?_)
  · have hx := List.getElem?_eq_getElem hi
    have hk' : k < (zs[i]).cells.length := by rw [hel _ (List.getElem_mem hi)]; exact hk
    obtain ⟨u, hu, _⟩ := hcr.flat hel i _ k _ hx (List.getElem?_eq_getElem hk')
    rw [hu]
    exact hI _ _ hu
  · obtain ⟨u, hu, hr⟩ := hcr.flat hel i x k c hx hc'
    simp only [hu, Option.getD_some]
    exact hr

/-- The cells from lo to hi of block b never change again; the list under number id is another now. -/
def Gh.grow (G : Gh) (id : Nat) (T : Tk) (b lo hi : Nat) (vs : Array Value) : Gh := ⟨G.j, fun b' k => if b' = b ∧ lo ≤ k ∧ k < hi then vs[k]? else G.I b' k, fun i => if i = id then some T else G.T i⟩

theorem Sto.set_same {σ : Sto} {id : Nat} {o : AObj} (h : σ.get id = some o) : σ.set id o = σ := by
  cases σ with
  | mk get next =>
    simp only [Sto.set, Sto.mk.injEq, and_true]
    funext i
    split
    · rename_i e; rw [e]; exact h.symm
    · rfl

/-- The list under number id has grown; it lies at (b, o) now. -/
theorem tok_step {gl : Nat → List AV} {w0 w w' : World} {G : Gh} {σ : Sto} (hi : Inv gl w0 G σ w) {id es n m b o cap : Nat} {T : Tk} {vs : Array Value} {ty : TypeId} (hg : σ.get id = some (.tok es n)) (hT : G.T id = some T) (hn : T.n = n)
    (hm : n < m) (hmc : m ≤ cap) (hown : TokB G σ id b ∨ b = w.heap.size) (hos : w'.os = w.os) (ht : w'.tape = w.tape) (hu : w'.output = w.output) (hsz : w.heap.size ≤ w'.heap.size) (hk : ∀ b', b' < w.heap.size → b' ≠ b → w'.heap[b']? = w.heap[b']?)
    (hb : w'.heap[b]? = some (.cells vs ty (0, 0))) (hvs : vs.size = o + cap * es) (lo : Nat) (hlo2 : lo ≤ o + m * es) (hlo : ∀ k v, G.I b k = some v → k < lo ∧ vs[k]? = some v) :
    G.le (G.grow id ⟨m, some ⟨b, o, none⟩, cap⟩ b lo (o + m * es) vs) ∧ Inv gl w0 (G.grow id ⟨m, some ⟨b, o, none⟩, cap⟩ b lo (o + m * es) vs) (σ.set id (.tok es m)) w' ∧
      Ext G σ w (G.grow id ⟨m, some ⟨b, o, none⟩, cap⟩ b lo (o + m * es) vs) (σ.set id (.tok es m)) w' := by
  have hbase : w0.heap.size ≤ b := by
    rcases hown with h | h
    · obtain ⟨es', n', T', o', h1, h2, h3, h4⟩ := h
      obtain ⟨T2, k1, k2, k3, k4⟩ := hi.tok.ok id es' n' h1
      rw [h2] at k1; cases k1
      obtain ⟨b2, o2, vs2, ty2, g1, g2, _⟩ := k4 h3
      rw [h4] at g1; cases g1
      exact g2
    · rw [h]; exact hi.base_le
  have hjb : ∀ i o' B, σ.get i = some o' → G.j i = some B → B.b ≠ b := fun i o' B h1 h2 => by
    rcases hown with h | h
    · exact hi.tok.oj id b h i o' B h1 h2
    · have := (hi.obj i o' B h1 h2).2.lt; omega
  have htb : ∀ i, i ≠ id → ¬ TokB G σ i b := fun i hne h => by
    rcases hown with h' | h'
    · exact hne (hi.tok.inj i id b h h')
    · have := hi.tok.lt h; omega
  have hjn : G.j id = none := by
    cases hj : G.j id with
    | none => rfl
    | some B => exact (hi.obj id _ B hg hj).2.elim
  have hid := hi.live id _ hg
  have hle : G.le (G.grow id ⟨m, some ⟨b, o, none⟩, cap⟩ b lo (o + m * es) vs) := by
    refine ⟨fun _ _ x => x, fun b' k v hv => ?_, fun i T' hT' => ?_⟩
    · simp only [Gh.grow]
      split
      · rename_i h
        obtain ⟨rfl, h1, h2⟩ := h
        exact (hlo k v hv).2
      · exact hv
    · simp only [Gh.grow]
      by_cases e : i = id
      · subst e
        rw [hT] at hT'; cases hT'
        rw [if_pos rfl]
        exact ⟨_, rfl, by simp only; omega, fun h => by simp only at h; omega⟩
      · rw [if_neg e]; exact ⟨T', hT', Nat.le_refl _, fun _ => rfl⟩
  have hIo : ∀ b' k, b' ≠ b → (G.grow id ⟨m, some ⟨b, o, none⟩, cap⟩ b lo (o + m * es) vs).I b' k = G.I b' k := fun b' k hne => by
    simp only [Gh.grow]; rw [if_neg (by rintro ⟨e, _⟩; exact hne e)]
  have hgs : ∀ i o', (σ.set id (.tok es m)).get i = some o' → (i = id ∧ o' = .tok es m) ∨ (i ≠ id ∧ σ.get i = some o') := fun i o' h => by
    simp only [Sto.set] at h
    split at h
    · rename_i e; cases h; exact .inl ⟨e, rfl⟩
    · rename_i e; exact .inr ⟨e, h⟩
  have hkb : ∀ b', b' < w.heap.size → b' ≠ b → w'.heap[b']? = w.heap[b']? := hk
  refine ⟨hle, {
    below := hi.below.trans ⟨hos, ht, hu, hsz, fun k hk' => hk k (Nat.lt_of_lt_of_le hk' hi.base_le) (by omega)⟩
    imm := fun b' k v hv => by
      simp only [Gh.grow] at hv
      split at hv
      · rename_i h
        obtain ⟨rfl, h1, h2⟩ := h
        rw [cell_at hb]; exact hv
      · by_cases e : b' = b
        · subst e
          rw [cell_at hb]; exact (hlo k v hv).2
        · exact (World.cell?_of_block (w := w) (a := ⟨b', k, none⟩) (hk b' (hi.imm_lt hv) e)).trans (hi.imm b' k v hv)
    gl := fun g k c hc => (hi.gl g k c hc).imp fun v hv => ⟨hle.I _ _ _ hv.1, hv.2.mono hle⟩
    live := fun i o' h => by
      rcases hgs i o' h with ⟨rfl, _⟩ | ⟨_, h'⟩
      · exact hid
      · exact hi.live i o' h'
    obj := fun i o' B h1 h2 => by
      rcases hgs i o' h1 with ⟨rfl, rfl⟩ | ⟨_, h'⟩
      · have h2' : G.j i = some B := h2
        rw [hjn] at h2'; cases h2'
      · have h2' : G.j i = some B := h2
        have hne := hjb i o' B h' h2'
        obtain ⟨q1, q2⟩ := hi.obj i o' B h' h2'
        exact ⟨q1, q2.keep hle (hk _ q2.lt hne) (fun k => hIo _ _ hne)⟩
    fresh := hi.fresh
    inj := fun i i' o1 o2 B1 B2 h1 h2 h3 h4 h5 => by
      have h3' : G.j i = some B1 := h3
      have h4' : G.j i' = some B2 := h4
      rcases hgs i o1 h1 with ⟨rfl, _⟩ | ⟨_, h1'⟩
      · rw [hjn] at h3'; cases h3'
      · rcases hgs i' o2 h2 with ⟨rfl, _⟩ | ⟨_, h2'⟩
        · rw [hjn] at h4'; cases h4'
        · exact hi.inj i i' o1 o2 B1 B2 h1' h2' h3' h4' h5
    has := fun i o' h1 hnt => by
      rcases hgs i o' h1 with ⟨rfl, rfl⟩ | ⟨_, h1'⟩
      · exact absurd rfl (hnt es m)
      · exact hi.has i o' h1' hnt
    freshT := fun i h => by
      simp only [Gh.grow]
      have : σ.next ≤ i := h
      rw [if_neg (by omega)]; exact hi.freshT i h
    tok := by
      have up : ∀ i b', TokB (G.grow id ⟨m, some ⟨b, o, none⟩, cap⟩ b lo (o + m * es) vs) (σ.set id (.tok es m)) i b' → (i = id ∧ b' = b) ∨ (i ≠ id ∧ TokB G σ i b') := by
        rintro i b' ⟨es', n', T', o', h1, h2, h3, h4⟩
        simp only [Gh.grow] at h2
        rcases hgs i _ h1 with ⟨rfl, _⟩ | ⟨hne, h1'⟩
        · rw [if_pos rfl] at h2; cases h2
          simp only [Option.some.injEq, Addr.mk.injEq] at h4
          exact .inl ⟨rfl, h4.1.symm⟩
        · rw [if_neg hne] at h2
          exact .inr ⟨hne, es', n', T', o', h1', h2, h3, h4⟩
      refine ⟨fun i es' n' h1 => ?_, fun i i' b' h1 h2 => ?_, fun i b' h1 i' o' B h2 h3 => ?_⟩
      · rcases hgs i _ h1 with ⟨rfl, e⟩ | ⟨hne, h1'⟩
        · simp only [AObj.tok.injEq] at e
          obtain ⟨rfl, rfl⟩ := e
          refine ⟨⟨n', some ⟨b, o, none⟩, cap⟩, by simp [Gh.grow], rfl, hmc, fun hlt => ⟨b, o, vs, ty, rfl, hbase, hb, hvs, fun k hk' => ?_⟩⟩
          simp only [Gh.grow]
          rw [if_neg (by rintro ⟨_, _, h⟩; omega)]
          cases hI : G.I b k with
          | none => rfl
          | some v =>
            have := (hlo k v hI).1
            omega
        · obtain ⟨T', k1, k2, k3, k4⟩ := hi.tok.ok i es' n' h1'
          refine ⟨T', by simp only [Gh.grow]; rw [if_neg hne]; exact k1, k2, k3, fun hlt => ?_⟩
          obtain ⟨b3, o3, vs3, ty3, g1, g2, g3, g4, g5⟩ := k4 hlt
          have hbt : TokB G σ i b3 := ⟨es', n', T', o3, h1', k1, hlt, g1⟩
          have hne3 : b3 ≠ b := fun e => htb i hne (e ▸ hbt)
          exact ⟨b3, o3, vs3, ty3, g1, g2, (hk b3 (hi.tok.lt hbt) hne3).trans g3, g4, fun k hk' => (hIo _ _ hne3).trans (g5 k hk')⟩
      · rcases up i b' h1 with ⟨rfl, rfl⟩ | ⟨hne, h1'⟩ <;> rcases up i' _ h2 with ⟨rfl, e⟩ | ⟨hne', h2'⟩
        · rfl
        · exact absurd h2' (htb i' hne')
        · subst e; exact absurd h1' (htb i hne)
        · exact hi.tok.inj i i' b' h1' h2'
      · have h3' : G.j i' = some B := h3
        rcases hgs i' o' h2 with ⟨rfl, _⟩ | ⟨_, h2'⟩
        · rw [hjn] at h3'; cases h3'
        · rcases up i b' h1 with ⟨rfl, rfl⟩ | ⟨hne, h1'⟩
          · exact hjb i' o' B h2' h3'
          · exact hi.tok.oj i b' h1' i' o' B h2' h3' }, {
    le := hle
    size := hsz
    keep := fun b' hb' hn => by
      have hne : b' ≠ b := by
        rintro rfl
        rcases hown with h | h
        · exact hn (.inr ⟨id, h⟩)
        · omega
      refine ⟨hk b' hb' hne, fun k => hIo _ _ hne, ?_⟩
      rintro (⟨i, o', B, h1, h2, h3⟩ | ⟨i, es', n', T', o', h1, h2, h3, h4⟩)
      · have h2' : G.j i = some B := h2
        rcases hgs i o' h1 with ⟨rfl, _⟩ | ⟨_, h1'⟩
        · rw [hjn] at h2'; cases h2'
        · exact hn (.inl ⟨i, o', B, h1', h2', h3⟩)
      · simp only [Gh.grow] at h2
        rcases hgs i _ h1 with ⟨rfl, _⟩ | ⟨hni, h1'⟩
        · rw [if_pos rfl] at h2; cases h2
          simp only [Option.some.injEq, Addr.mk.injEq] at h4
          exact hne h4.1.symm
        · rw [if_neg hni] at h2
          exact hn (.inr ⟨i, es', n', T', o', h1', h2, h3, h4⟩)
    next := Nat.le_refl _ }⟩

section ops
variable {C : Cx} {o : Oper} {ρ : Operand → AV} {σ : Sto}

theorem Src.mono {C : Cx} {G G' : Gh} {w : World} {t2 : TypeId} {es : Nat} {X : Value} {ys : List AV} (h : Src C G w t2 es X ys) (le : G.le G') : Src C G' w t2 es X ys :=
  ⟨h.ty, h.len, fun w' hw' => by
    obtain ⟨news, h1, h2, h3⟩ := h.cells w' hw'
    exact ⟨news, h1, h2.mono le, h3⟩, h.el⟩

/-- append to a list that is still appended to. -/
theorem append_own_sem {t t2 e : TypeId} {ti ei : TyI} {s x : Operand} {id es n : Nat} {xs ys : List AV} (ht : C.ty t = some ti) (hd : ti.desc = .slice e) (he : C.ty e = some ei)
    (ho : o.op = .call { callee := .builtin .append, args := #[s, x], argTypes := #[t, t2] }) (hg : σ.get id = some (.tok es n)) {w0 : World} {G : Gh} {a : Act} {w : World} (hi : Inv C.gl w0 G σ w)
    (hp : Rep G (.own id xs) (a.eval s)) (hX : Src C G w t2 ei.size (a.eval x) ys) (hn : n = xs.length) (hes : es = ei.size) (hel : ∀ x ∈ xs, x.cells.length = ei.size) (hone : ∀ x ∈ xs, x.cells.all AV.one = true) (hz : ei.zero.cells.size = ei.size)
    (hbb : (xs.length + ys.length) * ei.bytes ≤ 140737488355328) (h63 : xs.length + ys.length ≤ 9223372036854775807) : ∃ G' nx v' w', (execOp a.eval o).run C.P w = .ok nx w' ∧ (nx = .value v' ∨ nx = .skip ∧ v' = undef) ∧ Rep G' (.own id (xs ++ ys)) v' ∧ Inv C.gl w0 G' (σ.set id (.tok es (n + ys.length))) w' ∧
      Ext G σ w G' (σ.set id (.tok es (n + ys.length))) w' := by
  subst hes
  generalize hv : a.eval s = v at hp
  cases hp with
  | own _ _ _ h htk =>
  obtain ⟨T, hT, hle0, hfit⟩ := htk
  obtain ⟨T2, k1, k2, k3, k4⟩ := hi.tok.ok id _ _ hg
  rw [hT] at k1; cases k1
  have hv' := hfit (by omega)
  subst hv'
  obtain ⟨olds, o1, o2, o3⟩ := list_cells h hel hone
  have hol : olds.length = xs.length * ei.size := by have := o1.1; rw [(flat_get hel).1] at this; simpa using this
  have helall : ∀ z ∈ xs ++ ys, z.cells.length = ei.size := fun z hz' => by
    rcases List.mem_append.1 hz' with h | h
    · exact hel z h
    · exact hX.el z h
  by_cases hy : ys = []
  · subst hy
    obtain ⟨i2, hi2, hni⟩ := hX.ty
    obtain ⟨news, n1, n2, n3⟩ := hX.cells w rfl
    have hnn : news = [] := by have := n2.1; simpa [flat] using this
    subst hnn
    have hm : (match i2.desc with | .int _ => true | _ => false) = false := by
      cases hd2 : i2.desc with
      | int k => exact absurd hd2 (hni k)
      | _ => rfl
    simp only [List.append_nil, List.length_nil, Nat.add_zero] at *
    rw [Sto.set_same hg]
    refine ⟨G, _, .slice T.a xs.length T.cap, w, ?_, .inl rfl, .own _ _ _ h ⟨T, hT, by omega, fun _ => rfl⟩, hi, .refl G σ w⟩
    simp only [execOp, ho, resolve, invoke, builtin, Sem.run_bind, Sem.run_pure, Result.andThen_ok]
    simp only [List.map_toArray, List.map_cons, List.map_nil, hv]
    have hle2 : xs.length ≤ T.cap := by omega
    simp only [Builtin.append_, List.getElem?_toArray, List.getElem?_cons_zero, List.getElem?_cons_succ, Sem.run_bind, C.run_und ht, Result.andThen_ok, hd, C.run_size he, C.run_und hi2]
    simp only [Sem.run_bind, C.run_und hi2, Result.andThen_ok, Sem.run_pure, hm, Bool.false_eq_true, if_false, hX.len, List.length_nil, Nat.add_zero, hle2, if_true, Bool.not_false, n1]
    cases T.a <;> simp [storeCells]
  · have hpos : 0 < ys.length := List.length_pos_iff.2 hy
    by_cases hroom : xs.length + ys.length ≤ T.cap
    · obtain ⟨b, o', vs, ty, g1, g2, g3, g4, g5⟩ := k4 (by omega)
      have hvslice : a.eval s = .slice (some ⟨b, o', none⟩) xs.length T.cap := by rw [hv, g1]
      have hle : (xs.length + ys.length) * ei.size ≤ T.cap * ei.size := Nat.mul_le_mul_right _ hroom
      rw [Nat.add_mul] at hle
      obtain ⟨news, n1, n2⟩ := run_append_in (ty := o.type) ht hd he hX b o' xs.length T.cap vs ty g3 hroom (by omega)
      have hnl : news.length = ys.length * ei.size := by have := n1.1; rw [(flat_get hX.el).1] at this; simpa using this
      have hwsz : (wrV vs (o' + xs.length * ei.size) news).size = vs.size := wrV_size (by omega)
      subst hn
      obtain ⟨q1, q2, q3⟩ := tok_step (w' := w.setRow b (wrV vs (o' + xs.length * ei.size) news)) (m := xs.length + ys.length) (b := b) (o := o') (cap := T.cap) (vs := wrV vs (o' + xs.length * ei.size) news) (ty := ty) hi hg hT k2 (by omega) hroom
        (.inl ⟨_, _, T, o', hg, hT, by omega, g1⟩) rfl rfl rfl (by simp) (fun b' _ hb' => setRow_other w b b' _ hb') (setRow_heap w b vs _ ty _ g3) (by rw [hwsz, g4]) (o' + xs.length * ei.size) (by rw [Nat.add_mul]; omega) (fun k v hI => by
          have hlt : k < o' + xs.length * ei.size := by
            rcases Nat.lt_or_ge k (o' + xs.length * ei.size) with h | h
            · exact h
            · rw [g5 k h] at hI; cases hI
          refine ⟨hlt, ?_⟩
          have hc := hi.imm _ _ _ hI
          rw [cell_at g3] at hc
          rw [wrV_get (by omega), if_neg (by omega)]; exact hc)
      refine ⟨_, _, .slice (some ⟨b, o', none⟩) (xs.length + ys.length) T.cap, _, by simp only [execOp, ho, resolve, invoke, builtin, Sem.run_bind, Sem.run_pure, Result.andThen_ok]; simp only [List.map_toArray, List.map_cons, List.map_nil, hvslice]; rw [n2]; rfl, .inl rfl, ?_, q2, q3⟩
      refine .own _ _ _ (rep_list_of (es := ei.size) (cs := olds.toArray ++ news.toArray) (by simp) helall ?_ (fun j v hj => ?_) (by simpa using hroom)) ⟨_, by simp [Gh.grow]; rfl, by simp, fun _ => by simp⟩
      · rw [flat_append]; exact (o1.append n1).mono q1
      · rw [Array.getElem?_append] at hj
        split at hj
        · rename_i hlt
          obtain ⟨b2, o2', e1, e2⟩ := o3 j v (by simpa using hj)
          rw [g1] at e1; cases e1
          exact q1.I _ _ _ e2
        · rename_i hge
          have hjj : news[j - olds.length]? = some v := by simpa using hj
          have hlt2 := (List.getElem?_eq_some_iff.1 hjj).1
          simp only [List.size_toArray] at hge
          simp only [Gh.grow]
          rw [if_pos ⟨trivial, by omega, by rw [Nat.add_mul]; omega⟩, wrV_get (by omega), if_pos (by omega), ← hjj]
          congr 1; omega
    · obtain ⟨cap', news, zs, f1, f2, f3, f4⟩ := run_append_new (ty := o.type) ht hd he hX T.a xs.length T.cap olds hol (fun w' hw' => run_firstCells ei.size _ T.a _ olds hol fun j v hj => by
        obtain ⟨b, o', e1, e2⟩ := o3 j v hj
        refine ⟨_, e1, ?_⟩
        rw [add_at]
        exact (World.cell?_of_block (w := w) (a := ⟨b, o' + j, none⟩) (by rw [hw'])).trans (hi.imm _ _ _ e2)) (by omega) h63 hbb
      have hcr : CR G (flat (xs ++ ys)) (olds.toArray ++ news.toArray) := by rw [flat_append]; exact o1.append f2
      have hsz : (olds.toArray ++ news.toArray ++ zs).size = cap' * ei.size := by
        have h1 := hcr.1
        rw [(flat_get helall).1] at h1
        rw [Array.size_append, h1, f3, hz, ← Nat.add_mul]; congr 1; simp; omega
      have hno : ∀ k, G.I w.heap.size k = none := fun k => by
        cases hI : G.I w.heap.size k with
        | none => rfl
        | some v => have := hi.imm_lt hI; omega
      subst hn
      obtain ⟨q1, q2, q3⟩ := tok_step (w' := w.drew.alloc (.cells (olds.toArray ++ news.toArray ++ zs) e)) (m := xs.length + ys.length) (b := w.heap.size) (o := 0) (cap := cap') (vs := olds.toArray ++ news.toArray ++ zs) (ty := e) hi hg hT k2 (by omega) f1
        (.inr rfl) rfl rfl rfl (by simp) (fun b' hb' _ => Below.heap_alloc w.drew _ _ hb') (heap_alloc_new w.drew _) (by rw [hsz]; omega) 0 (Nat.zero_le _) (fun k v hI => by rw [hno k] at hI; cases hI)
      refine ⟨_, _, .slice (some ⟨w.heap.size, 0, none⟩) (xs.length + ys.length) cap', _, by simp only [execOp, ho, resolve, invoke, builtin, Sem.run_bind, Sem.run_pure, Result.andThen_ok]; simp only [List.map_toArray, List.map_cons, List.map_nil, hv]; rw [f4]; rfl, .inl rfl, ?_, q2, q3⟩
      refine .own _ _ _ (rep_list_of (es := ei.size) (cs := olds.toArray ++ news.toArray) (by simp) helall (hcr.mono q1) (fun j v hj => ?_) (by simpa using f1)) ⟨_, by simp [Gh.grow]; rfl, by simp, fun _ => by simp⟩
      have hlt := (Array.getElem?_eq_some_iff.1 hj).1
      have h2 : (olds.toArray ++ news.toArray).size = (xs.length + ys.length) * ei.size := by rw [hcr.1, (flat_get helall).1, List.length_append]
      simp only [Gh.grow]
      rw [if_pos ⟨trivial, Nat.zero_le _, by omega⟩, Nat.zero_add, Array.getElem?_append, if_pos hlt]
      exact hj

theorem snd_append_own {t t2 e : TypeId} {ti ei : TyI} {s x : Operand} {id es n : Nat} {xs ys : List AV} (ht : C.ty t = some ti) (hd : ti.desc = .slice e) (he : C.ty e = some ei)
    (ho : o.op = .call { callee := .builtin .append, args := #[s, x], argTypes := #[t, t2] }) (hs : ρ s = .own id xs) (hg : σ.get id = some (.tok es n))
    (hsrc : ∀ w0 G a w, Inv C.gl w0 G σ w → Rep G (ρ x) (Act.eval a x) → Src C G w t2 ei.size (a.eval x) ys) :
    Snd C o ρ σ ⟨n = xs.length ∧ es = ei.size ∧ (∀ x ∈ xs, x.cells.length = ei.size) ∧ (∀ x ∈ xs, x.cells.all AV.one = true) ∧ ei.zero.cells.size = ei.size ∧ (xs.length + ys.length) * ei.bytes ≤ 140737488355328 ∧ xs.length + ys.length ≤ 9223372036854775807,
      .own id (xs ++ ys), σ.set id (.tok es (n + ys.length))⟩ := by
  rintro ⟨hn, hes, hel, hone, hz, hbb, h63⟩ w0 G a w hi hr
  have hp := hr s (by simp [ho, Op.operands, Call.operands])
  have hX := hsrc w0 G a w hi (hr x (by simp [ho, Op.operands, Call.operands]))
  rw [hs] at hp
  exact append_own_sem ht hd he ho hg hi hp hX hn hes hel hone hz hbb h63

theorem Rep.fz {G : Gh} {a : AV} {v : Value} (h : Rep G a v) : Rep G (match a with | .own _ xs => .list false xs | a => a) v := by
  cases a with
  | own id xs => cases h with | own _ _ _ h _ => exact h
  | _ => exact h
end ops

/-- A list without room may be appended to. -/
theorem own_new {gl : Nat → List AV} {w0 w : World} {G : Gh} {σ : Sto} (hi : Inv gl w0 G σ w) {xs : List AV} {v : Value} (h : Rep G (.list true xs) v) (es : Nat) :
    ∃ G', G.le G' ∧ Rep G' (.own σ.next xs) v ∧ Inv gl w0 G' (σ.add (.tok es xs.length)) w ∧ Ext G σ w G' (σ.add (.tok es xs.length)) w := by
  obtain ⟨a, hv⟩ : ∃ a, v = .slice a xs.length xs.length := by
    cases h with
    | list0 _ a c h => obtain rfl := h rfl; exact ⟨a, rfl⟩
    | list _ _ b o len cap es vs hl hc hf => obtain rfl := hf rfl; subst hl; exact ⟨_, rfl⟩
  have hfr := hi.freshT σ.next (Nat.le_refl _)
  have hle : G.le ⟨G.j, G.I, fun i => if i = σ.next then some ⟨xs.length, a, xs.length⟩ else G.T i⟩ := ⟨fun _ _ h => h, fun _ _ _ h => h, fun i T hT => by
    have hne : i ≠ σ.next := by rintro rfl; rw [hfr] at hT; cases hT
    simp only [if_neg hne]
    exact ⟨T, hT, Nat.le_refl _, fun _ => rfl⟩⟩
  have hgs : ∀ i o', (σ.add (.tok es xs.length)).get i = some o' → (i = σ.next ∧ o' = .tok es xs.length) ∨ (i ≠ σ.next ∧ σ.get i = some o') := fun i o' h => by
    simp only [Sto.add] at h
    split at h
    · rename_i e; cases h; exact .inl ⟨e, rfl⟩
    · rename_i e; exact .inr ⟨e, h⟩
  have up : ∀ i b', TokB ⟨G.j, G.I, fun i => if i = σ.next then some ⟨xs.length, a, xs.length⟩ else G.T i⟩ (σ.add (.tok es xs.length)) i b' → TokB G σ i b' := by
    rintro i b' ⟨es', n', T', o', h1, h2, h3, h4⟩
    simp only at h2
    rcases hgs i _ h1 with ⟨rfl, _⟩ | ⟨hne, h1'⟩
    · rw [if_pos rfl] at h2; cases h2; simp at h3
    · rw [if_neg hne] at h2; exact ⟨es', n', T', o', h1', h2, h3, h4⟩
  have hjn := hi.fresh σ.next (Nat.le_refl _)
  refine ⟨_, hle, .own _ _ _ ?_ ⟨_, by simp; rfl, Nat.le_refl _, fun _ => hv⟩, {
    below := hi.below
    imm := hi.imm
    gl := fun g k c hc => (hi.gl g k c hc).imp fun v hv => ⟨hv.1, hv.2.mono hle⟩
    live := fun i o' h => by
      show i < σ.next + 1
      rcases hgs i o' h with ⟨rfl, _⟩ | ⟨_, h'⟩
      · omega
      · have := hi.live i o' h'; omega
    obj := fun i o' B h1 h2 => by
      have h2' : G.j i = some B := h2
      rcases hgs i o' h1 with ⟨rfl, _⟩ | ⟨_, h'⟩
      · rw [hjn] at h2'; cases h2'
      · obtain ⟨q1, q2⟩ := hi.obj i o' B h' h2'
        exact ⟨q1, q2.keep hle rfl fun _ => rfl⟩
    fresh := fun i h => hi.fresh i (by have : σ.next + 1 ≤ i := h; omega)
    inj := fun i i' o1 o2 B1 B2 h1 h2 h3 h4 h5 => by
      have h3' : G.j i = some B1 := h3
      have h4' : G.j i' = some B2 := h4
      rcases hgs i o1 h1 with ⟨rfl, _⟩ | ⟨_, h1'⟩
      · rw [hjn] at h3'; cases h3'
      · rcases hgs i' o2 h2 with ⟨rfl, _⟩ | ⟨_, h2'⟩
        · rw [hjn] at h4'; cases h4'
        · exact hi.inj i i' o1 o2 B1 B2 h1' h2' h3' h4' h5
    has := fun i o' h1 hnt => by
      rcases hgs i o' h1 with ⟨rfl, rfl⟩ | ⟨_, h1'⟩
      · exact absurd rfl (hnt es xs.length)
      · exact hi.has i o' h1' hnt
    freshT := fun i h => by
      have : σ.next + 1 ≤ i := h
      simp only
      rw [if_neg (by omega)]; exact hi.freshT i (by omega)
    tok := by
      refine ⟨fun i es' n' h1 => ?_, fun i i' b' h1 h2 => hi.tok.inj i i' b' (up _ _ h1) (up _ _ h2), fun i b' h1 i' o' B h2 h3 => ?_⟩
      · rcases hgs i _ h1 with ⟨rfl, e⟩ | ⟨hne, h1'⟩
        · simp only [AObj.tok.injEq] at e
          obtain ⟨rfl, rfl⟩ := e
          exact ⟨_, by simp; rfl, rfl, Nat.le_refl _, fun h => by simp at h⟩
        · obtain ⟨T', k1, k2, k3, k4⟩ := hi.tok.ok i es' n' h1'
          exact ⟨T', by simp only; rw [if_neg hne]; exact k1, k2, k3, k4⟩
      · have h3' : G.j i' = some B := h3
        rcases hgs i' o' h2 with ⟨rfl, _⟩ | ⟨_, h2'⟩
        · rw [hjn] at h3'; cases h3'
        · exact hi.tok.oj i b' (up _ _ h1) i' o' B h2' h3' }, {
    le := hle
    size := Nat.le_refl _
    keep := fun b' hb' hn => ⟨rfl, fun _ => rfl, by
      rintro (⟨i, o', B, h1, h2, h3⟩ | ⟨i, h1⟩)
      · have h2' : G.j i = some B := h2
        rcases hgs i o' h1 with ⟨rfl, _⟩ | ⟨_, h1'⟩
        · rw [hjn] at h2'; cases h2'
        · exact hn (.inl ⟨i, o', B, h1', h2', h3⟩)
      · exact hn (.inr ⟨i, up _ _ h1⟩)⟩
    next := Nat.le_succ _ }⟩
  have h' : Rep G (.list false xs) v := by
    cases h with
    | list0 _ a c h => exact .list0 _ _ _ (fun e => by cases e)
    | list _ _ b o len cap es vs hl hc hf hs hI hvv => exact .list _ _ b o len cap es vs hl hc (fun e => by cases e) hs hI hvv
  exact h'.mono hle

section ops
variable {C : Cx} {o : Oper} {ρ : Operand → AV} {σ : Sto}
/-- append to a list without room. -/
theorem snd_append_full' {t t2 e : TypeId} {ti ei : TyI} {s x : Operand} {xs ys : List AV} (ht : C.ty t = some ti) (hd : ti.desc = .slice e) (he : C.ty e = some ei)
    (ho : o.op = .call { callee := .builtin .append, args := #[s, x], argTypes := #[t, t2] }) (hs : ρ s = .list true xs)
    (hsrc : ∀ w0 G a w, Inv C.gl w0 G σ w → Rep G (ρ x) (Act.eval a x) → Src C G w t2 ei.size (a.eval x) ys) :
    Snd C o ρ σ ⟨(∀ x ∈ xs, x.cells.length = ei.size) ∧ (∀ x ∈ xs, x.cells.all AV.one = true) ∧ ei.zero.cells.size = ei.size ∧ (xs.length + ys.length) * ei.bytes ≤ 140737488355328 ∧ xs.length + ys.length ≤ 9223372036854775807,
      .own σ.next (xs ++ ys), σ.add (.tok ei.size (xs.length + ys.length))⟩ := by
  rintro ⟨hel, hone, hz, hbb, h63⟩ w0 G a w hi hr
  have hp := hr s (by simp [ho, Op.operands, Call.operands])
  have hX := hsrc w0 G a w hi (hr x (by simp [ho, Op.operands, Call.operands]))
  rw [hs] at hp
  obtain ⟨G1, k1, k2, k3, k4⟩ := own_new hi hp ei.size
  obtain ⟨G2, nx, v', w', q1, q2, q3, q4, q5⟩ := append_own_sem (σ := σ.add (.tok ei.size xs.length)) (n := xs.length) ht hd he ho (by simp [Sto.add]) k3 k2 (hX.mono k1) rfl rfl hel hone hz hbb h63
  have e : (σ.add (.tok ei.size xs.length)).set σ.next (.tok ei.size (xs.length + ys.length)) = σ.add (.tok ei.size (xs.length + ys.length)) := by
    simp only [Sto.set, Sto.add, Sto.mk.injEq, and_true]
    funext i
    split <;> rfl
  rw [e] at q4 q5
  exact ⟨G2, nx, v', w', q1, q2, q3, q4, k4.trans q5⟩
end ops
end Go.Lg
