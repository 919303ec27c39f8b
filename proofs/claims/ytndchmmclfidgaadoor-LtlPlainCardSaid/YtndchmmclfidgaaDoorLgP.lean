/- Lg, part P: exact states: what was made on the way is forgotten; loops and joins at states that are told exactly. -/
import Derived.Test.YtndchmmclfidgaaDoorLgO
set_option linter.unusedVariables false
set_option linter.unusedSimpArgs false
namespace Go.Lg
open Go.RowKit

/-- No number from m on. -/
inductive Bel (m : Nat) : AV → Prop
  | undef : Bel m .undef
  | bool (b : Bool) : Bel m (.bool b)
  | int (k : IntKind) (n : Int) : Bel m (.int k n)
  | str (s : ByteArray) : Bel m (.str s)
  | list (full : Bool) (xs : List AV) (h : ∀ x ∈ xs, ∀ c ∈ x.cells, Bel m c) : Bel m (.list full xs)
  | own (id : Nat) (xs : List AV) (hid : id < m) (h : ∀ x ∈ xs, ∀ c ∈ x.cells, Bel m c) : Bel m (.own id xs)
  | row (id off len : Nat) (h : id < m) : Bel m (.row id off len)
  | ptr (id k : Nat) (h : id < m) : Bel m (.ptr id k)
  | rptr (id i k : Nat) (h : id < m) : Bel m (.rptr id i k)
  | eptr (cells : List AV) (k : Nat) (h : ∀ c ∈ cells, Bel m c) : Bel m (.eptr cells k)
  | nilp : Bel m .nilp
  | agg (cs : List AV) (h : ∀ c ∈ cs, Bel m c) : Bel m (.agg cs)
  | tup (cs : List AV) (h : ∀ c ∈ cs, Bel m c) : Bel m (.tup cs)
  | fn (f : FuncId) (cs : List AV) (h : ∀ c ∈ cs, Bel m c) : Bel m (.fn f cs)
  | yld (l : Nat) (h : l < m) : Bel m (.yld l)
  | nilf : Bel m .nilf
  | map (id : Nat) (h : id < m) : Bel m (.map id)
  | nilm : Bel m .nilm
  | iface (t : TypeId) (v : AV) (h : Bel m v) : Bel m (.iface t v)
  | nili : Bel m .nili

theorem Closed.bel {m : Nat} {a : AV} (h : Closed a) : Bel m a := by
  induction h with
  | undef => exact .undef
  | bool b => exact .bool b
  | int k n => exact .int k n
  | str s => exact .str s
  | list f xs h ih => exact .list f xs ih
  | eptr cells k h ih => exact .eptr cells k ih
  | nilp => exact .nilp
  | agg cs h ih => exact .agg cs ih
  | tup cs h ih => exact .tup cs ih
  | fn f cs h ih => exact .fn f cs ih
  | nilf => exact .nilf
  | nilm => exact .nilm
  | iface t v h ih => exact .iface t v ih
  | nili => exact .nili

theorem getOf {α : Type} {xs : List α} {x : α} (h : x ∈ xs) : ∃ i : Nat, xs[i]? = some x := List.getElem?_of_mem h

theorem Rep.bel {G : Gh} {m : Nat} {a : AV} {v : Value} (h : Rep G a v) (hj : ∀ id, m ≤ id → G.j id = none) (hT : ∀ id, m ≤ id → G.T id = none) : Bel m a := by
  have lt : ∀ {id B}, G.j id = some B → id < m := fun {id B} h => by
    rcases Nat.lt_or_ge id m with h' | h'
    · exact h'
    · rw [hj id h'] at h; cases h
  have pt : ∀ {cs : List AV} {vs : Array Value}, vs.size = cs.length → (∀ (i : Nat) (c : AV) (v : Value), cs[i]? = some c → vs[i]? = some v → Bel m c) → ∀ c ∈ cs, Bel m c := fun {cs vs} hl h c hc => by
    obtain ⟨i, hi⟩ := getOf hc
    have hlt : i < vs.size := by rw [hl]; exact (List.getElem?_eq_some_iff.1 hi).1
    exact h i c vs[i] hi (by simp [hlt])
  induction h with
  | undef v => exact .undef
  | bool b => exact .bool b
  | int k n => exact .int k n
  | str s => exact .str s
  | list0 f a c h => exact .list _ _ (fun x hx => by cases hx)
  | list full xs b o len cap es vs hl hc hf hs hI hv ih =>
    refine .list _ _ fun x hx c hc => ?_
    obtain ⟨i, hi⟩ := getOf hx
    obtain ⟨k, hk⟩ := getOf hc
    exact ih i x k c hi hk
  | own id xs v h ht ih =>
    obtain ⟨T, h1, _⟩ := ht
    cases ih with
    | list _ _ h => exact .own _ _ (by
        rcases Nat.lt_or_ge id m with h' | h'
        · exact h'
        · rw [hT id h'] at h1; cases h1) h
  | row id off len cap o B hj' hc h => exact .row _ _ _ (lt hj')
  | ptr id k B hj' => exact .ptr _ _ (lt hj')
  | rptr id i k B hj' => exact .rptr _ _ _ (lt hj')
  | eptr cells k b o vs hI hv ih =>
    refine .eptr _ _ fun c hc => ?_
    obtain ⟨i, hi⟩ := getOf hc
    exact ih i c hi
  | nilp => exact .nilp
  | agg cs vs hl hv ih => exact .agg _ (pt hl ih)
  | tup cs vs hl hv ih => exact .tup _ (pt hl ih)
  | fn f cs vs hl hv ih => exact .fn _ _ (pt hl ih)
  | yld l B hj' => exact .yld _ (lt hj')
  | nilf => exact .nilf
  | map id B hj' => exact .map _ (lt hj')
  | nilm => exact .nilm
  | iface t a v h ih => exact .iface _ _ ih
  | nili => exact .nili

theorem Bel.up {m n : Nat} {a : AV} (h : Bel m a) (hm : m ≤ n) : Bel n a := by
  induction h with
  | undef => exact .undef
  | bool b => exact .bool b
  | int k n => exact .int k n
  | str s => exact .str s
  | list f xs h ih => exact .list f xs ih
  | own id xs hid h ih => exact .own id xs (Nat.lt_of_lt_of_le hid hm) ih
  | row id off len h => exact .row _ _ _ (Nat.lt_of_lt_of_le h hm)
  | ptr id k h => exact .ptr _ _ (Nat.lt_of_lt_of_le h hm)
  | rptr id i k h => exact .rptr _ _ _ (Nat.lt_of_lt_of_le h hm)
  | eptr cells k h ih => exact .eptr cells k ih
  | nilp => exact .nilp
  | agg cs h ih => exact .agg cs ih
  | tup cs h ih => exact .tup cs ih
  | fn f cs h ih => exact .fn f cs ih
  | yld l h => exact .yld _ (Nat.lt_of_lt_of_le h hm)
  | nilf => exact .nilf
  | map id h => exact .map _ (Nat.lt_of_lt_of_le h hm)
  | nilm => exact .nilm
  | iface t v h ih => exact .iface t v ih
  | nili => exact .nili

def Gh.cut (G : Gh) (m : Nat) : Gh := ⟨fun id => if id < m then G.j id else none, G.I, fun id => if id < m then G.T id else none⟩

theorem Rep.cut {G : Gh} {m : Nat} {a : AV} {v : Value} (h : Rep G a v) (hb : Bel m a) : Rep (G.cut m) a v := by
  have jj : ∀ {id B}, id < m → G.j id = some B → (G.cut m).j id = some B := fun {id B} h1 h2 => by simp only [Gh.cut, h1, if_true]; exact h2
  induction h with
  | undef v => exact .undef v
  | bool b => exact .bool b
  | int k n => exact .int k n
  | str s => exact .str s
  | list0 f a c h => exact .list0 f a c h
  | list full xs b o len cap es vs hl hc hf hs hI hv ih =>
    cases hb with
    | list _ _ hx => exact .list full xs b o len cap es vs hl hc hf hs hI fun i x k c h1 h2 => ih i x k c h1 h2 (hx x (mem_of_get h1) c (mem_of_get h2))
  | own id xs v h ht ih =>
    cases hb with
    | own _ _ hid hx =>
      obtain ⟨T, h1, h2⟩ := ht
      exact .own id xs v (ih (.list _ _ hx)) ⟨T, by simp only [Gh.cut, hid, if_true]; exact h1, h2⟩
  | row id off len cap o B hj hc h => cases hb with | row _ _ _ hid => exact .row id off len cap o B (jj hid hj) hc h
  | ptr id k B hj => cases hb with | ptr _ _ hid => exact .ptr id k B (jj hid hj)
  | rptr id i k B hj => cases hb with | rptr _ _ _ hid => exact .rptr id i k B (jj hid hj)
  | eptr cells k b o vs hI hv ih => cases hb with | eptr _ _ hx => exact .eptr cells k b o vs hI fun i c h1 => ih i c h1 (hx c (mem_of_get h1))
  | nilp => exact .nilp
  | agg cs vs hl hv ih => cases hb with | agg _ hx => exact .agg cs vs hl fun i c v h1 h2 => ih i c v h1 h2 (hx c (mem_of_get h1))
  | tup cs vs hl hv ih => cases hb with | tup _ hx => exact .tup cs vs hl fun i c v h1 h2 => ih i c v h1 h2 (hx c (mem_of_get h1))
  | fn f cs vs hl hv ih => cases hb with | fn _ _ hx => exact .fn f cs vs hl fun i c v h1 h2 => ih i c v h1 h2 (hx c (mem_of_get h1))
  | yld l B hj => cases hb with | yld _ hid => exact .yld l B (jj hid hj)
  | nilf => exact .nilf
  | map id B hj => cases hb with | map _ hid => exact .map id B (jj hid hj)
  | nilm => exact .nilm
  | iface t a v h ih => cases hb with | iface _ _ hx => exact .iface t a v (ih hx)
  | nili => exact .nili

def BelO (m : Nat) : AObj → Prop
  | .box cs => ∀ c ∈ cs, Bel m c
  | .row _ elems _ => ∀ x ∈ elems, ∀ c ∈ x.cells, Bel m c
  | .tok _ _ => True
  | .loop L _ _ => ∀ t, t < L.nt → Bel m (L.env t)
  | .mp es => ∀ e ∈ es, Bel m e.2

theorem ObjOK.bel {G : Gh} {B : Blk} {w : World} {o : AObj} {m : Nat} (h : ObjOK G B w o) (hj : ∀ id, m ≤ id → G.j id = none) (hT : ∀ id, m ≤ id → G.T id = none) : BelO m o := by
  cases o with
  | box cells =>
    obtain ⟨vs, ty, h1, h2, h3, h4⟩ := h
    intro c hc
    obtain ⟨i, hi⟩ := getOf hc
    obtain ⟨v, _, hr⟩ := h3 i c hi
    exact hr.bel hj hT
  | row es elems froz =>
    obtain ⟨vs, ty, h1, h2, h3, h4, h5, h6, h7⟩ := h
    intro x hx c hc
    obtain ⟨i, hi⟩ := getOf hx
    obtain ⟨k, hk⟩ := getOf hc
    obtain ⟨v, _, hr⟩ := h6 i x k c hi hk
    exact hr.bel hj hT
  | tok => exact h.elim
  | loop L st pe =>
    obtain ⟨r, h1, h2, h3, h4, h5, h6, h7, h8, h9⟩ := h
    exact fun t ht => (h8 t ht).bel hj hT
  | mp es =>
    obtain ⟨xs, c, h1, h2, h3, h4⟩ := h
    intro e he
    obtain ⟨i, hi⟩ := getOf he
    obtain ⟨m, _, _, hr⟩ := h3 i e hi
    exact hr.bel hj hT

theorem ObjOK.cut {G : Gh} {B : Blk} {w : World} {o : AObj} {m : Nat} (h : ObjOK G B w o) (hb : BelO m o) : ObjOK (G.cut m) B w o := by
  cases o with
  | box cells =>
    obtain ⟨vs, ty, h1, h2, h3, h4⟩ := h
    exact ⟨vs, ty, h1, h2, fun i c hc => (h3 i c hc).imp fun v hv => ⟨hv.1, hv.2.cut (hb c (mem_of_get hc))⟩, h4⟩
  | row es elems froz =>
    obtain ⟨vs, ty, h1, h2, h3, h4, h5, h6, h7⟩ := h
    exact ⟨vs, ty, h1, h2, h3, h4, h5, fun i x k c hx hc => (h6 i x k c hx hc).imp fun v hv => ⟨hv.1, hv.2.cut (hb x (mem_of_get hx) c (mem_of_get hc))⟩, h7⟩
  | tok => exact h.elim
  | loop L st pe =>
    obtain ⟨r, h1, h2, h3, h4, h5, h6, h7, h8, h9⟩ := h
    exact ⟨r, h1, h2, h3, h4, h5, h6, h7, fun t ht => (h8 t ht).cut (hb t ht), h9⟩
  | mp es =>
    obtain ⟨xs, c, h1, h2, h3, h4⟩ := h
    exact ⟨xs, c, h1, h2, fun i e he => (h3 i e he).imp fun m hm => ⟨hm.1, hm.2.1, hm.2.2.cut (hb e (mem_of_get he))⟩, h4⟩

/-- Object o' is told less exactly by o. -/
def ObjLe (o' o : AObj) : Prop := o' = o ∨ ∃ cs ds, o' = .box cs ∧ o = .box ds ∧ leL cs ds
theorem ObjLe.tok {o' : AObj} {es n : Nat} (h : ObjLe o' (.tok es n)) : o' = .tok es n := by
  rcases h with h | ⟨cs, ds, _, h, _⟩
  · exact h
  · cases h
theorem ObjLe.ok {G : Gh} {B : Blk} {w : World} {o' o : AObj} (h : ObjLe o' o) (k : ObjOK G B w o') : ObjOK G B w o := by
  rcases h with rfl | ⟨cs, ds, rfl, rfl, hle⟩
  · exact k
  · obtain ⟨vs, ty, g1, g2, g3, g4⟩ := k
    refine ⟨vs, ty, g1, by rw [g2, hle.len], fun j c hc => ?_, g4⟩
    obtain ⟨a, ha, hac⟩ := hle.at j c hc
    obtain ⟨u, hu, hru⟩ := g3 j a ha
    exact ⟨u, hu, hac G u hru⟩

/-- From σ on σ' was come to; of it σ1 is told. -/
structure Cut (σ σ' σ1 : Sto) : Prop where
  n1 : σ.next ≤ σ1.next
  n2 : σ1.next ≤ σ'.next
  hi : ∀ i, σ1.next ≤ i → σ1.get i = none ∨ σ1.get i = σ.get i
  lo : ∀ i o, i < σ1.next → σ1.get i = some o → (∃ o', σ'.get i = some o' ∧ ObjLe o' o) ∧ (σ.get i = some o ∨ BelO σ1.next o)

theorem cut_step {gl : Nat → List AV} {w0 w w' : World} {G G' : Gh} {σ σ' σ1 : Sto} (hi0 : Inv gl w0 G σ w) (hi : Inv gl w0 G' σ' w') (hx : Ext G σ w G' σ' w') (hc : Cut σ σ' σ1) (hgl : ∀ g c, c ∈ gl g → Closed c) :
    Inv gl w0 (G'.cut σ1.next) σ1 w' ∧ Ext G σ w (G'.cut σ1.next) σ1 w' ∧ ∀ b, Own (G'.cut σ1.next) σ1 b → Own G' σ' b := by
  have lt : ∀ i o, σ1.get i = some o → i < σ1.next := fun i o h => by
    rcases Nat.lt_or_ge i σ1.next with h' | h'
    · exact h'
    · rcases hc.hi i h' with e | e
      · rw [e] at h; cases h
      · rw [e] at h; exact Nat.lt_of_lt_of_le (hi0.live i o h) hc.n1
  have up : ∀ i o, σ1.get i = some o → ∃ o', σ'.get i = some o' ∧ ObjLe o' o := fun i o h => (hc.lo i o (lt i o h) h).1
  have jj : ∀ i B, (G'.cut σ1.next).j i = some B → i < σ1.next ∧ G'.j i = some B := fun i B h => by
    simp only [Gh.cut] at h
    split at h
    · rename_i h'; exact ⟨h', h⟩
    · cases h
  have hj0 : ∀ id, σ1.next ≤ id → G.j id = none := fun id h => hi0.fresh id (Nat.le_trans hc.n1 h)
  have hT0 : ∀ id, σ1.next ≤ id → G.T id = none := fun id h => hi0.freshT id (Nat.le_trans hc.n1 h)
  have bt : ∀ i b, TokB (G'.cut σ1.next) σ1 i b → TokB G' σ' i b := by
    rintro i b ⟨es, n, T, k, h1, h2, h3⟩
    obtain ⟨o', h4, h5⟩ := up i _ h1
    obtain rfl := h5.tok
    refine ⟨es, n, T, k, h4, ?_, h3⟩
    simp only [Gh.cut] at h2
    split at h2
    · exact h2
    · cases h2
  have ow : ∀ b, Own (G'.cut σ1.next) σ1 b → Own G' σ' b := by
    rintro b (⟨i, o, B, h1, h2, h3⟩ | ⟨i, h1⟩)
    · obtain ⟨o', h4, _⟩ := up i o h1
      exact .inl ⟨i, o', B, h4, (jj i B h2).2, h3⟩
    · exact .inr ⟨i, bt i b h1⟩
  have hle : G.le (G'.cut σ1.next) := by
    refine ⟨fun id B h => ?_, fun b o v h => hx.le.I b o v h, fun id T h => ?_⟩
    · have : id < σ1.next := by
        rcases Nat.lt_or_ge id σ1.next with h' | h'
        · exact h'
        · rw [hj0 id h'] at h; cases h
      simp only [Gh.cut, this, if_true]; exact hx.le.j id B h
    · have : id < σ1.next := by
        rcases Nat.lt_or_ge id σ1.next with h' | h'
        · exact h'
        · rw [hT0 id h'] at h; cases h
      simp only [Gh.cut, this, if_true]; exact hx.le.T id T h
  refine ⟨{
    below := hi.below
    imm := hi.imm
    gl := fun g k c hc' => (hi.gl g k c hc').imp fun v hv => ⟨hv.1, hv.2.closed (fun _ _ _ h => h) (hgl g c (mem_of_get hc'))⟩
    live := lt
    obj := fun i o B h1 h2 => by
      obtain ⟨hlt, h2'⟩ := jj i B h2
      obtain ⟨⟨o', h3, h4⟩, h5⟩ := hc.lo i o hlt h1
      obtain ⟨q1, q2⟩ := hi.obj i o' B h3 h2'
      have q3 := h4.ok q2
      refine ⟨q1, q3.cut ?_⟩
      rcases h5 with h5 | h5
      · have hnt : ∀ es n, o ≠ .tok es n := fun es n e => by subst e; exact q3.elim
        obtain ⟨B0, hB0⟩ := hi0.has i o h5 hnt
        exact (hi0.obj i o B0 h5 hB0).2.bel hj0 hT0
      · exact h5
    fresh := fun i h => by simp only [Gh.cut]; rw [if_neg (by omega)]
    inj := fun i i' o1 o2 B1 B2 h1 h2 h3 h4 h5 => by
      obtain ⟨p, hp, _⟩ := up i o1 h1
      obtain ⟨q, hq, _⟩ := up i' o2 h2
      exact hi.inj i i' p q B1 B2 hp hq (jj i B1 h3).2 (jj i' B2 h4).2 h5
    has := fun i o h1 hnt => by
      obtain ⟨o', h2, h3⟩ := up i o h1
      have hnt' : ∀ es n, o' ≠ .tok es n := fun es n e => by
        subst e
        rcases h3 with h3 | ⟨cs, ds, h3, _⟩
        · exact hnt es n h3.symm
        · cases h3
      obtain ⟨B, hB⟩ := hi.has i o' h2 hnt'
      exact ⟨B, by simp only [Gh.cut, lt i o h1, if_true]; exact hB⟩
    freshT := fun i h => by simp only [Gh.cut]; rw [if_neg (by omega)]
    tok := by
      refine ⟨fun i es n h1 => ?_, fun i i' b h1 h2 => hi.tok.inj i i' b (bt _ _ h1) (bt _ _ h2), fun i b h1 i' o B h2 h3 => ?_⟩
      · obtain ⟨o', h2, h3⟩ := up i _ h1
        obtain rfl := h3.tok
        obtain ⟨T, k1, k2, k3, k4⟩ := hi.tok.ok i es n h2
        exact ⟨T, by simp only [Gh.cut, lt i _ h1, if_true]; exact k1, k2, k3, k4⟩
      · obtain ⟨o', h4, _⟩ := up i' o h2
        exact hi.tok.oj i b (bt _ _ h1) i' o' B h4 (jj i' B h3).2 }, {
    le := hle
    size := hx.size
    keep := fun b hb hn => by
      obtain ⟨a1, a2, a3⟩ := hx.keep b hb hn
      exact ⟨a1, a2, fun h => a3 (ow b h)⟩
    next := hc.n1 }, ow⟩

/-- Of the environment env', come to from env, env1 is told. -/
def EnvC (m : Nat) (env env' env1 : Env) : Prop := ∀ t, env1 t = .undef ∨ ((env' t).le (env1 t) ∧ (env t = env1 t ∨ Bel m (env1 t)))

theorem codeS_cut {C : Cx} {ro : Option Nat} {nt : Nat} {c : Code} {env env' env1 : Env} {σ σ' σ1 : Sto} {e : Exit} (h : CodeS C ro nt c env σ e env' σ') (hc : Cut σ σ' σ1) (he : EnvC σ1.next env env' env1) : CodeS C ro nt c env σ e env1 σ1 := by
  intro w0 G a w hr cr hcr
  refine wpIn_mono (h w0 G a w hr cr hcr) fun e2 a' w' hp => ?_
  obtain ⟨rfl, G', ms, g2, g3, g4, g5⟩ := hp
  obtain ⟨q1, q2, q3⟩ := cut_step hr.inv g2.inv g3 hc C.glc
  refine ⟨rfl, G'.cut σ1.next, ms, ⟨q1, g2.env.size, fun t ht => ?_⟩, q2, g4, ⟨g5.nd, fun r hr' => ?_⟩⟩
  · rcases he t with h | ⟨h1, h2⟩
    · rw [h]; exact .undef _
    · refine (h1 G' _ (g2.env.rep t ht)).cut ?_
      rcases h2 with h2 | h2
      · rw [← h2]
        exact (hr.env.rep t ht).bel (fun id h => hr.inv.fresh id (Nat.le_trans hc.n1 h)) (fun id h => hr.inv.freshT id (Nat.le_trans hc.n1 h))
      · exact h2
  · obtain ⟨k1, k2, k3⟩ := g5.ok r hr'
    exact ⟨k1, k2, fun h => k3 (q3 _ h)⟩

theorem CallS.cut {C : Cx} {f : FuncId} {args : List AV} {σ σ' σ1 : Sto} {r r' : AV} (h : CallS C f args σ r' σ') (hr : r'.le r) (hb : Bel σ1.next r) (hc : Cut σ σ' σ1) : CallS C f args σ r σ1 := by
  intro w0 G w V hi hV hrep
  refine (h w0 G w V hi hV hrep).mono ?_
  rintro e w' ⟨G', v, rfl, h1, h2, h3⟩
  obtain ⟨q1, q2, _⟩ := cut_step hi h2 h3 hc C.glc
  exact ⟨G'.cut σ1.next, v, rfl, (hr G' v h1).cut hb, q1, q2⟩

/-- A segment's end, told exactly. -/
theorem WK.cut {C : Cx} {ro : Option Nat} {nt : Nat} {k : K} {Q : Exit → Env → Sto → Prop} {env : Env} {σ : Sto}
    (h : WK C ro nt k (fun e env' σ' => Q e env' σ' ∨ ∃ env1 σ1, Cut σ σ' σ1 ∧ EnvC σ1.next env env' env1 ∧ Q e env1 σ1) env σ) : WK C ro nt k Q env σ := fun c hc => by
  obtain ⟨e, env', σ', h1, h2 | ⟨env1, σ1, h2, h3, h4⟩⟩ := h c hc
  · exact ⟨e, env', σ', h1, h2⟩
  · exact ⟨e, env1, σ1, codeS_cut h1 h2 h3, h4⟩

/-! ### Stores -/
/-- σ1 is σ but for objects that are told without numbers from m on. -/
structure Sh (m : Nat) (σ σ1 : Sto) : Prop where
  n1 : σ.next ≤ σ1.next
  hi : ∀ i, σ1.next ≤ i → σ1.get i = none ∨ σ1.get i = σ.get i
  ok : ∀ i o, σ1.get i = some o → σ.get i = some o ∨ BelO m o
theorem Sh.refl (m : Nat) (σ : Sto) : Sh m σ σ := ⟨Nat.le_refl _, fun _ _ => .inr rfl, fun _ _ h => .inl h⟩
theorem Sh.add {m : Nat} {σ σ1 : Sto} (h : Sh m σ σ1) {o : AObj} (ho : BelO m o) : Sh m σ (σ1.add o) :=
  ⟨Nat.le_succ_of_le h.n1, fun i hi => by
    have hi : σ1.next + 1 ≤ i := hi
    simp only [Sto.get_add]
    rw [if_neg (by omega)]; exact h.hi i (by omega), fun i o' hi => by
    simp only [Sto.get_add] at hi
    split at hi
    · cases hi; exact .inr ho
    · exact h.ok i o' hi⟩
theorem Sh.set {m : Nat} {σ σ1 : Sto} (h : Sh m σ σ1) {id : Nat} {o : AObj} (hid : id < σ1.next) (ho : BelO m o) : Sh m σ (σ1.set id o) :=
  ⟨h.n1, fun i hi => by
    have hi : σ1.next ≤ i := hi
    simp only [Sto.get_set]
    rw [if_neg (by omega)]; exact h.hi i hi, fun i o' hi => by
    simp only [Sto.get_set] at hi
    split at hi
    · cases hi; exact .inr ho
    · exact h.ok i o' hi⟩
theorem Sh.del {m : Nat} {σ σ1 : Sto} (h : Sh m σ σ1) {id : Nat} : Sh m σ (σ1.del id) :=
  ⟨h.n1, fun i hi => by
    have hi : σ1.next ≤ i := hi
    simp only [Sto.get_del]
    split
    · exact .inl rfl
    · exact h.hi i hi, fun i o' hi => by
    simp only [Sto.get_del] at hi
    split at hi
    · cases hi
    · exact h.ok i o' hi⟩
theorem Cut.mk' {σ σ' σ1 : Sto} (h : Sh σ1.next σ σ1) (n2 : σ1.next ≤ σ'.next) (lo : ∀ i, i < σ1.next → σ'.get i = σ1.get i) : Cut σ σ' σ1 :=
  ⟨h.n1, n2, h.hi, fun i o hi ho => ⟨⟨o, (lo i hi).trans ho, .inl rfl⟩, h.ok i o ho⟩⟩
theorem Cut.same {σ σ' : Sto} (n2 : σ.next ≤ σ'.next) (lo : ∀ i, i < σ.next → σ'.get i = σ.get i) : Cut σ σ' σ := .mk' (.refl _ _) n2 lo
theorem Cut.refl (σ : Sto) : Cut σ σ σ := .same (Nat.le_refl _) fun _ _ => rfl

/-- σ' has all that σ has. -/
structure Sub (σ σ' : Sto) : Prop where
  next : σ.next ≤ σ'.next
  get : ∀ i, i < σ.next → σ'.get i = σ.get i
theorem Sub.refl (σ : Sto) : Sub σ σ := ⟨Nat.le_refl _, fun _ _ => rfl⟩
theorem Sub.trans {a b c : Sto} (h : Sub a b) (k : Sub b c) : Sub a c := ⟨Nat.le_trans h.next k.next, fun i hi => (k.get i (Nat.lt_of_lt_of_le hi h.next)).trans (h.get i hi)⟩
theorem Sub.add {σ σ' : Sto} (h : Sub σ σ') (o : AObj) : Sub σ (σ'.add o) := ⟨Nat.le_succ_of_le h.next, fun i hi => by
  have := h.next
  simp only [Sto.get_add]; rw [if_neg (by omega)]; exact h.get i hi⟩
theorem Sub.set {σ σ' : Sto} (h : Sub σ σ') {id : Nat} (hid : σ.next ≤ id) (o : AObj) : Sub σ (σ'.set id o) := ⟨h.next, fun i hi => by
  simp only [Sto.get_set]; rw [if_neg (by omega)]; exact h.get i hi⟩
theorem Sub.del {σ σ' : Sto} (h : Sub σ σ') {id : Nat} (hid : σ.next ≤ id) : Sub σ (σ'.del id) := ⟨h.next, fun i hi => by
  simp only [Sto.get_del]; rw [if_neg (by omega)]; exact h.get i hi⟩
theorem Sub.cut {σ σ' : Sto} (h : Sub σ σ') : Cut σ σ' σ := .same h.next h.get

/-! ### Environments -/
def mkE : List (Nat × AV) → Env
  | [] => fun _ => .undef
  | (t, v) :: l => upd (mkE l) t v
theorem mkE_at : ∀ (l : List (Nat × AV)) (t : Nat), mkE l t = .undef ∨ ∃ v, (t, v) ∈ l ∧ mkE l t = v
  | [], t => .inl rfl
  | (u, v) :: l, t => by
    by_cases e : t = u
    · subst e; exact .inr ⟨v, List.mem_cons_self, by simp [mkE, upd]⟩
    · rcases mkE_at l t with h | ⟨v', h1, h2⟩
      · exact .inl (by simp [mkE, upd, e, h])
      · exact .inr ⟨v', List.mem_cons_of_mem _ h1, by simp [mkE, upd, e, h2]⟩
/-- The temporaries ts as in env, the temporaries us at values vs. -/
def envX (env : Env) (ts us : List Nat) (vs : List AV) : Env := mkE (us.zip vs ++ ts.map fun t => (t, env t))
def keptX (env env' : Env) : List Nat → Prop
  | [] => True
  | t :: ts => (env' t).le (env t) ∧ keptX env env' ts
def leX (env : Env) : List Nat → List AV → Prop
  | [], [] => True
  | u :: us, v :: vs => (env u).le v ∧ leX env us vs
  | _, _ => False
def madeX (m : Nat) (env' : Env) : List Nat → List AV → Prop
  | [], [] => True
  | u :: us, v :: vs => ((env' u).le v ∧ Bel m v) ∧ madeX m env' us vs
  | _, _ => False
/-- The temporaries ts alone. -/
def pick (env : Env) (ts : List Nat) : Env := mkE (ts.map fun t => (t, env t))
theorem pick_at {env : Env} : ∀ {ts : List Nat} {t : Nat}, t ∈ ts → pick env ts t = env t
  | u :: ts, t, ht => by
    simp only [pick, List.map_cons, mkE, upd]
    split
    · rename_i e; rw [e]
    · rename_i e
      rcases List.mem_cons.1 ht with h | h
      · exact absurd h e
      · exact pick_at h
theorem keptX_of {env env1 env' : Env} : ∀ {ts : List Nat}, (∀ t ∈ ts, env t = env1 t) → keptX env env' ts → keptX env1 env' ts
  | [], _, _ => trivial
  | t :: ts, h, k => ⟨by rw [← h t List.mem_cons_self]; exact k.1, keptX_of (fun u hu => h u (List.mem_cons_of_mem _ hu)) k.2⟩
theorem keptX_pick {env env' : Env} {ts : List Nat} (h : keptX (pick env ts) env' ts) : keptX env env' ts := keptX_of (fun t ht => pick_at ht) h
theorem keptX.mem {env env' : Env} : ∀ {ts : List Nat}, keptX env env' ts → ∀ t ∈ ts, (env' t).le (env t)
  | u :: ts, h, t, ht => by
    rcases List.mem_cons.1 ht with rfl | ht
    · exact h.1
    · exact keptX.mem h.2 t ht
theorem leX.mem {env : Env} : ∀ {us : List Nat} {vs : List AV}, leX env us vs → ∀ t v, (t, v) ∈ us.zip vs → (env t).le v
  | [], [], _, t, v, h => by simp at h
  | u :: us, w :: vs, h, t, v, hm => by
    simp only [List.zip_cons_cons, List.mem_cons, Prod.mk.injEq] at hm
    rcases hm with ⟨rfl, rfl⟩ | hm
    · exact h.1
    · exact leX.mem h.2 t v hm
theorem madeX.mem {m : Nat} {env : Env} : ∀ {us : List Nat} {vs : List AV}, madeX m env us vs → ∀ t v, (t, v) ∈ us.zip vs → (env t).le v ∧ Bel m v
  | [], [], _, t, v, h => by simp at h
  | u :: us, w :: vs, h, t, v, hm => by
    simp only [List.zip_cons_cons, List.mem_cons, Prod.mk.injEq] at hm
    rcases hm with ⟨rfl, rfl⟩ | hm
    · exact h.1
    · exact madeX.mem h.2 t v hm
theorem envX_at (env : Env) (ts us : List Nat) (vs : List AV) (t : Nat) : envX env ts us vs t = .undef ∨ (∃ v, (t, v) ∈ us.zip vs ∧ envX env ts us vs t = v) ∨ (t ∈ ts ∧ envX env ts us vs t = env t) := by
  rcases mkE_at (us.zip vs ++ ts.map fun t => (t, env t)) t with h | ⟨v, h1, h2⟩
  · exact .inl h
  · rcases List.mem_append.1 h1 with h | h
    · exact .inr (.inl ⟨v, h, h2⟩)
    · obtain ⟨u, hu, e⟩ := List.mem_map.1 h
      simp only [Prod.mk.injEq] at e
      obtain ⟨rfl, rfl⟩ := e
      exact .inr (.inr ⟨hu, h2⟩)
theorem envX_less {env : Env} {ts us : List Nat} {vs : List AV} (h : leX env us vs) : env.less (envX env ts us vs) := fun t => by
  rcases envX_at env ts us vs t with e | ⟨v, h1, e⟩ | ⟨h1, e⟩
  · rw [e]; exact AV.le_undef _
  · rw [e]; exact h.mem t v h1
  · rw [e]; exact .refl _
/-- E: where the segment began, of which the temporaries ts are as in env. -/
theorem envX_C {m : Nat} {env E env' : Env} {ts us : List Nat} {vs : List AV} (hE : ∀ t ∈ ts, env t = .undef ∨ E t = env t ∨ Bel m (env t)) (hk : keptX env env' ts) (hm : madeX m env' us vs) : EnvC m E env' (envX env ts us vs) := fun t => by
  rcases envX_at env ts us vs t with e | ⟨v, h1, e⟩ | ⟨h1, e⟩
  · exact .inl e
  · rw [e]; obtain ⟨q1, q2⟩ := hm.mem t v h1; exact .inr ⟨q1, .inr q2⟩
  · rw [e]
    rcases hE t h1 with h | h | h
    · exact .inl h
    · exact .inr ⟨hk.mem t h1, .inl h⟩
    · exact .inr ⟨hk.mem t h1, .inr h⟩
end Go.Lg
