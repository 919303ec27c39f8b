/- Lg, part N: saying less; rows that nobody writes any more. -/
import Derived.Test.YtndchmmclfidgaaDoorLgT
import Derived.Test.YtndchmmclfidgaaDoorLgFm
set_option linter.unusedVariables false
set_option linter.unusedSimpArgs false
namespace Go.Lg
open Go.RowKit
def AV.le (a b : AV) : Prop := ∀ (G : Gh) (v : Value), Rep G a v → Rep G b v
theorem AV.le.refl (a : AV) : a.le a := fun _ _ h => h
theorem AV.le.trans {a b c : AV} (h : a.le b) (k : b.le c) : a.le c := fun G v x => k G v (h G v x)
theorem AV.le_undef (a : AV) : a.le .undef := fun _ v _ => .undef v
def leL : List AV → List AV → Prop
  | [], [] => True
  | a :: as, b :: bs => a.le b ∧ leL as bs
  | _, _ => False
theorem leL.refl : ∀ l : List AV, leL l l
  | [] => trivial
  | a :: l => ⟨.refl a, leL.refl l⟩
theorem leL.len : ∀ {l k : List AV}, leL l k → l.length = k.length
  | [], [], _ => rfl
  | _ :: _, _ :: _, h => by simp [leL.len h.2]
theorem leL.at : ∀ {l k : List AV}, leL l k → ∀ (i : Nat) (b : AV), k[i]? = some b → ∃ a, l[i]? = some a ∧ a.le b
  | [], [], _, i, b, h => by simp at h
  | a :: l, c :: k, h, 0, b, hb => by simp at hb; subst hb; exact ⟨a, rfl, h.1⟩
  | a :: l, c :: k, h, i + 1, b, hb => by simpa using leL.at h.2 i b (by simpa using hb)
theorem AV.le_agg {cs ds : List AV} (h : leL cs ds) : (AV.agg cs).le (.agg ds) := fun G v hr => by
  cases hr with
  | agg _ vs hl hv =>
    refine .agg _ vs (by rw [hl, h.len]) fun i c u hc hu => ?_
    obtain ⟨a, ha, hle⟩ := h.at i c hc
    exact hle G u (hv i a u ha hu)
theorem AV.le_tup {cs ds : List AV} (h : leL cs ds) : (AV.tup cs).le (.tup ds) := fun G v hr => by
  cases hr with
  | tup _ vs hl hv =>
    refine .tup _ vs (by rw [hl, h.len]) fun i c u hc hu => ?_
    obtain ⟨a, ha, hle⟩ := h.at i c hc
    exact hle G u (hv i a u ha hu)
def leE (x y : AV) : Prop := leL x.cells y.cells
def leEs : List AV → List AV → Prop
  | [], [] => True
  | a :: as, b :: bs => leE a b ∧ leEs as bs
  | _, _ => False
theorem leEs.refl : ∀ l : List AV, leEs l l
  | [] => trivial
  | a :: l => ⟨leL.refl _, leEs.refl l⟩
theorem leEs.len : ∀ {l k : List AV}, leEs l k → l.length = k.length
  | [], [], _ => rfl
  | _ :: _, _ :: _, h => by simp [leEs.len h.2]
theorem leEs.at : ∀ {l k : List AV}, leEs l k → ∀ (i : Nat) (b : AV), k[i]? = some b → ∃ a, l[i]? = some a ∧ leE a b
  | [], [], _, i, b, h => by simp at h
  | a :: l, c :: k, h, 0, b, hb => by simp at hb; subst hb; exact ⟨a, rfl, h.1⟩
  | a :: l, c :: k, h, i + 1, b, hb => by simpa using leEs.at h.2 i b (by simpa using hb)
theorem AV.le_list {f f' : Bool} {xs ys : List AV} (hf : f' = true → f = true) (h : leEs xs ys) : (AV.list f xs).le (.list f' ys) := fun G v hr => by
  cases hr with
  | list0 _ a cap hc =>
    cases ys with
    | nil => exact .list0 f' a cap fun e => hc (hf e)
    | cons y ys => exact h.elim
  | list _ _ b o len cap es vs hl hc hful hs hI hv =>
    refine .list f' ys b o len cap es vs (by rw [← h.len]; exact hl) hc (fun e => hful (hf e)) (fun i y hy => ?_) hI (fun i y k c hy hc => ?_)
    · obtain ⟨a, ha, hle⟩ := h.at i y hy
      rw [← hle.len]; exact hs i a ha
    · obtain ⟨a, ha, hle⟩ := h.at i y hy
      obtain ⟨a', ha', hle'⟩ := leL.at hle k c hc
      exact hle' G _ (hv i a k a' ha ha')
theorem AV.le_list' {f : Bool} (xs : List AV) : (AV.list f xs).le (.list false xs) := AV.le_list (fun e => by cases e) (leEs.refl xs)
section
variable {C : Cx}
theorem CallS.le {f : FuncId} {args args' : List AV} {σ σ' : Sto} {r r' : AV} (h : CallS C f args σ r σ') (ha : leL args' args) (hr : r.le r') : CallS C f args' σ r' σ' :=
  fun w0 G w V hi hV hrep => (h w0 G w V hi (by rw [hV, ha.len]) fun i x v hx hv => by
    obtain ⟨a, h1, h2⟩ := ha.at i x hx
    exact h2 G v (hrep i a v h1 hv)).mono fun e w' hp => by
    obtain ⟨G', v, h1, h2, h3⟩ := hp
    exact ⟨G', v, h1, hr G' v h2, h3⟩
theorem callR_pureL {ρ : Operand → AV} {σ : Sto} {cl : Call} {K : AV → Sto → Prop} {f : Operand} {g : FuncId} {args : List AV} {r : AV}
    (h : PCall C g args r) (hc : cl.callee = .value f) (hf : ρ f = .fn g []) (ha : leL (cl.args.toList.map ρ) args) (hk : K r σ) : callR C ρ σ (.call cl) K := by
  obtain ⟨fn, c, hb⟩ := h.here
  refine ⟨r, σ, fun o ho => opStep_call (f := f) (as := cl.args) (ts := cl.argTypes) (by rw [ho, ← hc]) hf hb ?_, hk⟩
  rw [List.append_nil]
  exact (h.callS σ).le ha (.refl r)
theorem callK_pureL {nt : Nat} {d : Option Nat} {cl : Call} {rs : List RO} {K : Env → Sto → Prop} {env : Env} {σ : Sto} {f : Operand} {g : FuncId} {args : List AV} {r : AV}
    (h : PCall C g args r) (hc : cl.callee = .value f) (hf : ev C nt env f = .fn g []) (ha : leL (cl.args.toList.map (ev C nt env)) args) (hk : wpr C nt rs K (putA env d r) σ) : callK C nt d cl rs K env σ :=
  callR_pureL h hc hf ha hk
end
def frz (id : Nat) (elems : List AV) : AV → AV
  | .row i off len => if i = id then (if off + len ≤ elems.length then .list false ((elems.drop off).take len) else .undef) else .row i off len
  | .agg cs => .agg (cs.map fun c => match c with
    | .row i off len => if i = id then (if off + len ≤ elems.length then .list false ((elems.drop off).take len) else .undef) else .row i off len
    | c => c)
  | v => v
def frz1 (id : Nat) (elems : List AV) : AV → AV
  | .row i off len => if i = id then (if off + len ≤ elems.length then .list false ((elems.drop off).take len) else .undef) else .row i off len
  | v => v
def Env.frz (id : Nat) (elems : List AV) (env : Env) : Env := fun t => Lg.frz id elems (env t)
def Sto.frz (σ : Sto) (id : Nat) (elems : List AV) : Sto :=
  ⟨fun i => if i = id then Option.none else match σ.get i with | some (.box cs) => some (.box (cs.map (frz1 id elems))) | o => o, σ.next⟩
theorem frz1_rep {G : Gh} {id es : Nat} {B : Blk} {elems : List AV} {vs : Array Value} (hj : G.j id = some B) (he : B.es = es) (hz : B.o0 + elems.length * es ≤ B.sz) (hsz : vs.size = B.sz)
    (hs : ∀ (i : Nat) (x : AV), elems[i]? = some x → x.cells.length = es)
    (hI : ∀ k, B.o0 ≤ k → k < B.o0 + elems.length * es → G.I B.b k = vs[k]?)
    (hv : ∀ (i : Nat) (x : AV) (k : Nat) (c : AV), elems[i]? = some x → x.cells[k]? = some c → ∃ v : Value, vs[B.o0 + i * es + k]? = some v ∧ Rep G c v) {a : AV} {v : Value} (h : Rep G a v) : Rep G (frz1 id elems a) v := by
  cases a with
  | row i off len =>
    simp only [frz1]
    split
    · rename_i e
      subst e
      split
      · rename_i hle
        cases h with
        | row _ _ _ cap o B' hj' hc hor =>
          rw [hj] at hj'; cases hj'
          rcases hor with ⟨ho, hcap⟩ | ⟨h0, hcap⟩
          · have hlen : ((elems.drop off).take len).length = len := by simp; omega
            have hget : ∀ i, i < len → ((elems.drop off).take len)[i]? = elems[off + i]? := fun i hi => by
              rw [List.getElem?_take, if_pos hi, List.getElem?_drop]
            refine .list false _ B.b o len cap es (fun i k => vs.getD (B.o0 + (off + i) * es + k) undef) hlen hc (fun e => by cases e) (fun i x hx => ?_) (fun i k hi hk => ?_) (fun i x k c hx hc' => ?_)
            · have hi : i < len := by have := (List.getElem?_eq_some_iff.1 hx).1; omega
              rw [hget i hi] at hx
              exact hs _ x hx
            · have hpos : o + (i * es + k) = B.o0 + (off + i) * es + k := by rw [ho, he, Nat.add_mul]; omega
              have hlt : B.o0 + (off + i) * es + k < B.o0 + elems.length * es := by
                have : (off + i + 1) * es ≤ elems.length * es := Nat.mul_le_mul_right _ (by omega)
                rw [Nat.add_mul (off + i)] at this
                omega
              rw [hpos, hI _ (by omega) hlt, Array.getD_eq_getD_getElem?]
              have : B.o0 + (off + i) * es + k < vs.size := by omega
              simp [this]
            · have hi : i < len := by have := (List.getElem?_eq_some_iff.1 hx).1; omega
              rw [hget i hi] at hx
              obtain ⟨u, hu, hr⟩ := hv (off + i) x k c hx hc'
              simp only [Array.getD_eq_getD_getElem?, hu, Option.getD_some]
              exact hr
          · subst h0
            simp only [List.take_zero]
            exact .list0 false _ _ (fun e => by cases e)
      · exact .undef _
    · exact h
  | _ => exact h
theorem frz_rep {G : Gh} {id : Nat} {elems : List AV} (k1 : ∀ {a : AV} {v : Value}, Rep G a v → Rep G (frz1 id elems a) v) {a : AV} {v : Value} (h : Rep G a v) : Rep G (frz id elems a) v := by
  cases a with
  | agg cs =>
    cases h with
    | agg _ vs hl hv =>
      simp only [frz]
      refine .agg _ vs (by simpa using hl) fun i c u hc hu => ?_
      rw [List.getElem?_map] at hc
      cases hci : cs[i]? with
      | none => rw [hci] at hc; cases hc
      | some c0 =>
        rw [hci] at hc
        simp only [Option.map_some, Option.some.injEq] at hc
        have := k1 (hv i c0 u hci hu)
        subst hc
        exact this
  | row i off len => exact k1 h
  | _ => exact h
def Gh.freeze (G : Gh) (B : Blk) (n : Nat) (vs : Array Value) : Gh := ⟨G.j, fun b k => if b = B.b ∧ B.o0 ≤ k ∧ k < B.o0 + n then vs[k]? else G.I b k, G.T⟩
theorem freeze_step {C : Cx} {w0 w : World} {G : Gh} {σ : Sto} {nt : Nat} {env : Env} {a : Act} {id es : Nat} {elems : List AV} {fz : Bool} (h : Rel C w0 G nt env σ a w) (ho : σ.get id = some (.row es elems fz)) :
    ∃ G', Rel C w0 G' nt (env.frz id elems) (σ.frz id elems) a w ∧ Ext G σ w G' (σ.frz id elems) w := by
  have hi := h.inv
  have hget : ∀ i o, (σ.frz id elems).get i = some o → i ≠ id ∧ ((∃ cs, σ.get i = some (.box cs) ∧ o = .box (cs.map (frz1 id elems))) ∨ (σ.get i = some o ∧ ∀ cs, o ≠ .box cs)) := by
    intro i o hi
    simp only [Sto.frz] at hi
    split at hi
    · cases hi
    · rename_i hne
      refine ⟨hne, ?_⟩
      split at hi
      · rename_i cs hc
        exact .inl ⟨cs, hc, by cases hi; rfl⟩
      · rename_i hno
        exact .inr ⟨hi, fun cs e => hno cs (by rw [hi, e])⟩
  have hsome : ∀ i o, (σ.frz id elems).get i = some o → ∃ o', σ.get i = some o' := fun i o h => by
    obtain ⟨_, ⟨cs, h1, _⟩ | ⟨h1, _⟩⟩ := hget i o h
    · exact ⟨_, h1⟩
    · exact ⟨_, h1⟩
  -- what follows from a ghost state in which values are as they are told
  have core : ∀ G', G.le G' → (∀ b, ¬ (∃ id o B, σ.get id = some o ∧ G.j id = some B ∧ B.b = b) → ∀ k, G'.I b k = G.I b k) → G'.j = G.j → G'.T = G.T → (∀ b k v, G'.I b k = some v → w.cell? ⟨b, k, none⟩ = some v) →
      (∀ i o B, i ≠ id → σ.get i = some o → G.j i = some B → ∀ k, G'.I B.b k = G.I B.b k) →
      (∀ {a : AV} {v : Value}, Rep G' a v → Rep G' (frz1 id elems a) v) → ∃ G', Rel C w0 G' nt (env.frz id elems) (σ.frz id elems) a w ∧ Ext G σ w G' (σ.frz id elems) w := by
    intro G' hle hkeep hj' hT' himm hIk k1
    refine ⟨G', ⟨?_, ⟨h.env.size, fun t ht => frz_rep k1 ((h.env.rep t ht).mono hle)⟩⟩, ?_⟩
    · exact {
        below := hi.below
        imm := himm
        gl := fun g k c hc => (hi.gl g k c hc).imp fun v hv => ⟨hle.I _ _ _ hv.1, hv.2.mono hle⟩
        live := fun i o h1 => by obtain ⟨o', h2⟩ := hsome i o h1; exact hi.live i o' h2
        obj := fun i o B h1 h2 => by
          rw [hj'] at h2
          obtain ⟨hne, ⟨cs, h3, rfl⟩ | ⟨h3, hnb⟩⟩ := hget i o h1
          · obtain ⟨hb, hok⟩ := hi.obj i _ B h3 h2
            have hok' := hok.keep hle rfl (hIk i _ B hne h3 h2)
            obtain ⟨vs, ty, g1, g2, g3, g4⟩ := hok'
            refine ⟨hb, vs, ty, g1, by simpa using g2, fun j c hc => ?_, g4⟩
            rw [List.getElem?_map] at hc
            cases hcj : cs[j]? with
            | none => rw [hcj] at hc; cases hc
            | some c0 =>
              rw [hcj] at hc
              simp only [Option.map_some, Option.some.injEq] at hc
              obtain ⟨u, hu, hr⟩ := g3 j c0 hcj
              subst hc
              exact ⟨u, hu, k1 hr⟩
          · obtain ⟨hb, hok⟩ := hi.obj i _ B h3 h2
            exact ⟨hb, hok.keep hle rfl (hIk i _ B hne h3 h2)⟩
        fresh := fun i h1 => by rw [hj']; exact hi.fresh i h1
        inj := fun i i' o o' B B' h1 h2 h3 h4 hb => by
          rw [hj'] at h3 h4
          obtain ⟨p, hp⟩ := hsome i o h1
          obtain ⟨q, hq⟩ := hsome i' o' h2
          exact hi.inj i i' p q B B' hp hq h3 h4 hb
        has := fun i o h1 hn => by
          rw [hj']
          obtain ⟨_, ⟨cs, h3, rfl⟩ | ⟨h3, _⟩⟩ := hget i o h1
          · exact hi.has i _ h3 (fun _ _ e => by cases e)
          · exact hi.has i o h3 hn
        freshT := fun i h1 => by rw [hT']; exact hi.freshT i h1
        tok := hi.tok.step hT' (fun i es' n h1 => by
            obtain ⟨_, ⟨cs, h3, e⟩ | ⟨h3, _⟩⟩ := hget i _ h1
            · cases e
            · exact h3) (fun i b hbt => ⟨rfl, hkeep b (by rintro ⟨i', o', B', q1, q2, q3⟩; exact hi.tok.oj i b hbt i' o' B' q1 q2 q3)⟩) (fun i b hbt i' o' B' q1 q2 => by
            rw [hj'] at q2
            obtain ⟨p, hp⟩ := hsome i' o' q1
            exact hi.tok.oj i b hbt i' p B' hp q2) }
    · exact {
        le := hle
        size := Nat.le_refl _
        keep := fun b hb hn => ⟨rfl, hkeep b (fun h => hn (.inl h)), by
          rintro (⟨i, o, B, h1, h2, h3⟩ | ⟨i, es', n, T, k, h1, h2, h3⟩)
          · rw [hj'] at h2
            obtain ⟨o', h4⟩ := hsome i o h1
            exact hn (.inl ⟨i, o', B, h4, h2, h3⟩)
          · obtain ⟨_, ⟨cs, _, e⟩ | ⟨h4, _⟩⟩ := hget i _ h1
            · cases e
            · rw [hT'] at h2
              exact hn (.inr ⟨i, es', n, T, k, h4, h2, h3⟩)⟩
        next := Nat.le_refl _ }
  cases hj : G.j id with
  | none =>
    refine core G (.refl G) (fun _ _ _ => rfl) rfl rfl hi.imm (fun _ _ _ _ _ _ _ => rfl) fun {a v} hr => ?_
    cases a with
    | row i off len =>
      simp only [frz1]
      split
      · rename_i e
        subst e
        cases hr with
        | row _ _ _ cap o B' hj' hc hor => rw [hj] at hj'; cases hj'
      · exact hr
    | _ => exact hr
  | some B =>
    obtain ⟨hb, vs, ty, h1, h2, h3, h4, h5, h6, h7⟩ := hi.obj id _ B ho hj
    have hle : G.le (G.freeze B (elems.length * es) vs) := ⟨fun _ _ x => x, fun b k v hv => by
      simp only [Gh.freeze]
      split
      · rename_i hc
        obtain ⟨rfl, hk1, hk2⟩ := hc
        have := h7 k hk1
        rw [hv] at this
        split at this
        · exact this.symm
        · cases this
      · exact hv, Gh.same_T rfl⟩
    refine core (G.freeze B (elems.length * es) vs) hle (fun b hn k => ?_) rfl rfl (fun b k v hv => ?_) (fun i o B' hne hs hj' k => ?_) (fun {a v} hr => ?_)
    · have hne : b ≠ B.b := fun e => hn ⟨id, _, B, ho, hj, e.symm⟩
      simp only [Gh.freeze]
      rw [if_neg (by rintro ⟨e, _⟩; exact hne e)]
    · simp only [Gh.freeze] at hv
      split at hv
      · rename_i hc
        obtain ⟨rfl, _⟩ := hc
        rw [cell_at h1]; exact hv
      · exact hi.imm b k v hv
    · have hb' : B'.b ≠ B.b := fun e => hne (hi.inj i id o _ B' B hs ho hj' hj e)
      simp only [Gh.freeze]
      rw [if_neg (by rintro ⟨e, _⟩; exact hb' e)]
    · refine frz1_rep (G := G.freeze B (elems.length * es) vs) (B := B) (vs := vs) hj h3 h4 h2 h5 (fun k hk1 hk2 => ?_) (fun i x k c hx hc => ?_) hr
      · simp only [Gh.freeze]
        rw [if_pos ⟨trivial, hk1, hk2⟩]
      · obtain ⟨u, hu, hr'⟩ := h6 i x k c hx hc
        exact ⟨u, hu, hr'.mono hle⟩
theorem codeS_freeze {C : Cx} {ro : Option Nat} {nt : Nat} {c : Code} {env env' : Env} {σ σ' : Sto} {e : Exit} {id es : Nat} {elems : List AV} {fz : Bool} (ho : σ.get id = some (.row es elems fz))
    (h : CodeS C ro nt c (env.frz id elems) (σ.frz id elems) e env' σ') : CodeS C ro nt c env σ e env' σ' := fun w0 G a w hr cr hcr => by
  obtain ⟨G1, h1, h2⟩ := freeze_step hr ho
  refine wpIn_mono (h w0 G1 a w h1 cr (hcr.mono h2.le)) fun e2 a' w' hp => ?_
  obtain ⟨g1, G', ms, g2, g3, g4⟩ := hp
  exact ⟨g1, G', ms, g2, h2.trans g3, g4⟩
theorem WK.freeze {C : Cx} {ro : Option Nat} {nt : Nat} {k : K} {Q : Exit → Env → Sto → Prop} {env : Env} {σ : Sto} (id : Nat) {es : Nat} {elems : List AV} {fz : Bool} (ho : σ.get id = some (.row es elems fz))
    (h : WK C ro nt k Q (env.frz id elems) (σ.frz id elems)) : WK C ro nt k Q env σ := fun c hc => by
  obtain ⟨e, env2, σ2, h1, h2⟩ := h c hc
  exact ⟨e, env2, σ2, codeS_freeze ho h1, h2⟩
def Env.less (env env1 : Env) : Prop := ∀ t, (env t).le (env1 t)
structure Sto.less (σ σ1 : Sto) : Prop where
  next : σ1.next = σ.next
  get : ∀ i o, σ1.get i = some o → σ.get i = some o ∨ ∃ cs ds, σ.get i = some (.box cs) ∧ o = .box ds ∧ leL cs ds
theorem codeS_less {C : Cx} {ro : Option Nat} {nt : Nat} {c : Code} {env env1 env' : Env} {σ σ1 σ' : Sto} {e : Exit} (he : env.less env1) (hs : σ.less σ1) (h : CodeS C ro nt c env1 σ1 e env' σ') : CodeS C ro nt c env σ e env' σ' := fun w0 G a w hr cr hcr => by
  have hsome : ∀ i o, σ1.get i = some o → ∃ o', σ.get i = some o' := fun i o h => by
    rcases hs.get i o h with h | ⟨cs, ds, h, _⟩
    · exact ⟨_, h⟩
    · exact ⟨_, h⟩
  have hi := hr.inv
  have hi1 : Inv C.gl w0 G σ1 w := {
    below := hi.below
    imm := hi.imm
    gl := hi.gl
    live := fun i o h => by obtain ⟨o', h'⟩ := hsome i o h; rw [hs.next]; exact hi.live i o' h'
    obj := fun i o B h1 h2 => by
      rcases hs.get i o h1 with h3 | ⟨cs, ds, h3, rfl, hle⟩
      · exact hi.obj i o B h3 h2
      · obtain ⟨hb, vs, ty, g1, g2, g3, g4⟩ := hi.obj i _ B h3 h2
        refine ⟨hb, vs, ty, g1, by rw [g2, hle.len], fun j c hc => ?_, g4⟩
        obtain ⟨a, ha, hac⟩ := hle.at j c hc
        obtain ⟨u, hu, hru⟩ := g3 j a ha
        exact ⟨u, hu, hac G u hru⟩
    fresh := fun i h => hi.fresh i (by rw [← hs.next]; exact h)
    inj := fun i i' o o' B B' h1 h2 => by
      obtain ⟨p, hp⟩ := hsome i o h1
      obtain ⟨q, hq⟩ := hsome i' o' h2
      exact hi.inj i i' p q B B' hp hq
    has := fun i o h1 hn => by
      rcases hs.get i o h1 with h3 | ⟨cs, ds, h3, rfl, hle⟩
      · exact hi.has i o h3 hn
      · exact hi.has i _ h3 (fun _ _ e => by cases e)
    freshT := fun i h => hi.freshT i (by rw [← hs.next]; exact h)
    tok := hi.tok.step rfl (fun i es n h1 => by
        rcases hs.get i _ h1 with h3 | ⟨cs, ds, h3, e, hle⟩
        · exact h3
        · cases e) (fun _ _ _ => ⟨rfl, fun _ => rfl⟩) (fun i b hb i' o' B h1 h2 => by
        obtain ⟨p, hp⟩ := hsome i' o' h1
        exact hi.tok.oj i b hb i' p B hp h2) }
  have hx : Ext G σ w G σ1 w := {
    le := .refl G
    size := Nat.le_refl _
    keep := fun b hb hn => ⟨rfl, fun _ => rfl, by
      rintro (⟨i, o, B, h1, h2, h3⟩ | ⟨i, es, n, T, k, h1, h2⟩)
      · obtain ⟨o', h4⟩ := hsome i o h1
        exact hn (.inl ⟨i, o', B, h4, h2, h3⟩)
      · rcases hs.get i _ h1 with h3 | ⟨cs, ds, h3, e, hle⟩
        · exact hn (.inr ⟨i, es, n, T, k, h3, h2⟩)
        · cases e⟩
    next := by rw [hs.next]; exact Nat.le_refl _ }
  refine wpIn_mono (h w0 G a w ⟨hi1, hr.env.size, fun t ht => he t G _ (hr.env.rep t ht)⟩ cr hcr) fun e2 a' w' hp => ?_
  obtain ⟨g1, G', ms, g2, g3, g4⟩ := hp
  exact ⟨g1, G', ms, g2, hx.trans g3, g4⟩
theorem WK.less {C : Cx} {ro : Option Nat} {nt : Nat} {k : K} {Q : Exit → Env → Sto → Prop} {env env1 : Env} {σ σ1 : Sto} (he : env.less env1) (hs : σ.less σ1) (h : WK C ro nt k Q env1 σ1) : WK C ro nt k Q env σ := fun c hc => by
  obtain ⟨e, env2, σ2, h1, h2⟩ := h c hc
  exact ⟨e, env2, σ2, codeS_less he hs h1, h2⟩
theorem Env.frz_upd (id : Nat) (elems : List AV) (env : Env) (d : Nat) (v : AV) : Env.frz id elems (upd env d v) = upd (Env.frz id elems env) d (Lg.frz id elems v) := by
  funext t; simp only [Env.frz, upd]; split <;> rfl
theorem Env.frz_at (id : Nat) (elems : List AV) (env : Env) (t : Nat) : Env.frz id elems env t = Lg.frz id elems (env t) := (rfl)
theorem Sto.get_frz (σ : Sto) (id : Nat) (elems : List AV) (i : Nat) : (σ.frz id elems).get i = if i = id then Option.none else match σ.get i with | some (.box cs) => some (.box (cs.map (frz1 id elems))) | o => o := (rfl)
theorem Sto.next_frz (σ : Sto) (id : Nat) (elems : List AV) : (σ.frz id elems).next = σ.next := (rfl)
attribute [go_sem] Env.frz_upd Env.frz_at Sto.get_frz Sto.next_frz frz frz1
structure FnK (C : Cx) (g : FuncId) (caps : List AV) (J : Sto → Prop) (args : List AV) (r : AV) : Prop where
  here : ∃ fn c, Body C.P g fn c
  call : ∀ σ, J σ → ∃ σ', CallS C g (args ++ caps) σ r σ' ∧ Kept 0 σ σ'
theorem FnK.weaken {C : Cx} {g : FuncId} {caps : List AV} {J J' : Sto → Prop} {args : List AV} {r : AV} (h : FnK C g caps J args r) (hj : ∀ σ, J' σ → J σ) : FnK C g caps J' args r := ⟨h.here, fun σ hs => h.call σ (hj σ hs)⟩
def Stays (J : Sto → Prop) : Prop := ∀ σ σ', J σ → Kept 0 σ σ' → J σ'
theorem callK_fnK {C : Cx} {nt : Nat} {d : Option Nat} {cl : Call} {rs : List RO} {K : Env → Sto → Prop} {env : Env} {σ : Sto} {f : Operand} {g : FuncId} {caps args : List AV} {r : AV} {J : Sto → Prop}
    (h : FnK C g caps J args r) (hj : J σ) (hc : cl.callee = .value f) (hf : ev C nt env f = .fn g caps) (ha : cl.args.toList.map (ev C nt env) = args) (hk : ∀ σ', Kept 0 σ σ' → wpr C nt rs K (putA env d r) σ') : callK C nt d cl rs K env σ := by
  obtain ⟨fn, c, hb⟩ := h.here
  obtain ⟨σ', h1, h2⟩ := h.call σ hj
  exact callK_gen hb h1 hc hf ha (hk σ' h2)
def idxF {A : Type} (p : A → Bool) : List A → Nat → Int
  | [], _ => -1
  | x :: xs, i => if p x = true then i else idxF p xs (i + 1)
theorem idxF_any {A : Type} (p : A → Bool) : ∀ (xs : List A) (i : Nat), decide (idxF p xs i ≥ 0) = xs.any p
  | [], i => rfl
  | x :: xs, i => by
    simp only [idxF, List.any_cons]
    by_cases h : p x = true
    · simp [h]
    · simp only [h, if_false, Bool.false_or]; exact idxF_any p xs (i + 1)
theorem idxF_drop {A : Type} (p : A → Bool) : ∀ (xs : List A) (n i : Nat), (∀ x ∈ xs.take i, p x = false) → idxF p xs n = idxF p (xs.drop i) (n + i)
  | [], n, i, _ => by simp [idxF]
  | x :: xs, n, 0, _ => rfl
  | x :: xs, n, i + 1, h => by
    have hx : p x = false := h x (by simp)
    simp only [idxF, hx, Bool.false_eq_true, if_false, List.drop_succ_cons]
    rw [idxF_drop p xs (n + 1) i fun y hy => h y (by simp [hy])]
    congr 1
    omega
theorem callD_pure {C : Cx} {nt : Nat} {d : Option Nat} {cl : Call} {rs : List (RO × DF)} {hist : List Sto} {ob : Obl} {K : Env → Sto → Prop} {env : Env} {σ : Sto} {f : Operand} {g : FuncId} {args : List AV} {r : AV}
    (h : PCall C g args r) (hc : cl.callee = .value f) (hf : ev C nt env f = .fn g []) (ha : cl.args.toList.map (ev C nt env) = args) (hk : oblOK σ ob ∧ wpD C nt K rs (σ :: hist) (oblDec ob) (putA env d r) σ) : callD C nt d cl rs hist ob K env σ :=
  callR_pure h hc hf ha hk
end Go.Lg
/- Lg, part O: lists that are built by append. -/
namespace Go.Lg
open Go.RowKit
structure Low (m : Nat) (σ σ' : Sto) : Prop where
  get : ∀ i, i < m → σ'.get i = σ.get i
  next : σ.next ≤ σ'.next
theorem Low.refl (m : Nat) (σ : Sto) : Low m σ σ := ⟨fun _ _ => rfl, Nat.le_refl _⟩
theorem Low.trans {m : Nat} {σ σ1 σ2 : Sto} (h : Low m σ σ1) (k : Low m σ1 σ2) : Low m σ σ2 := ⟨fun i hi => (k.get i hi).trans (h.get i hi), Nat.le_trans h.next k.next⟩
theorem Low.add {m : Nat} {σ : Sto} (o : AObj) (hm : m ≤ σ.next) : Low m σ (σ.add o) := ⟨fun i hi => by simp only [Sto.get_add]; rw [if_neg (by omega)], by simp [Sto.next_add]⟩
theorem Low.set {m : Nat} {σ : Sto} (id : Nat) (o : AObj) (hm : m ≤ id) : Low m σ (σ.set id o) := ⟨fun i hi => by simp only [Sto.get_set]; rw [if_neg (by omega)], Nat.le_refl _⟩
theorem Low.kept {m : Nat} {σ σ' : Sto} (h : Kept 0 σ σ') (hm : m ≤ σ.next) : Low m σ σ' := ⟨fun i hi => h.get i (Nat.zero_le _) (by omega), h.next⟩
theorem WK.lessT {C : Cx} {ro : Option Nat} {nt : Nat} {k : K} {Q : Exit → Env → Sto → Prop} {env : Env} {σ : Sto} (t : Nat) {v : AV} (hv : (env t).le v) (h : WK C ro nt k Q (upd env t v) σ) : WK C ro nt k Q env σ :=
  WK.less (fun u => by
    show (env u).le (if u = t then v else env u)
    split
    · rename_i e; rw [e]; exact hv
    · exact .refl _) ⟨rfl, fun i o hi => .inl hi⟩ h
theorem rep1 {α : Type} (a : α) : List.replicate 1 a = [a] := rfl
theorem rep2 {α : Type} (a : α) : List.replicate 2 a = [a, a] := rfl
theorem rep3 {α : Type} (a : α) : List.replicate 3 a = [a, a, a] := rfl
theorem rep4 {α : Type} (a : α) : List.replicate 4 a = [a, a, a, a] := rfl
attribute [go_sem] rep1 rep2 rep3 rep4 List.set_cons_zero List.set_cons_succ Option.getD_some
end Go.Lg
/- Lg, part P: exact states: what was made on the way is forgotten; loops and joins at states that are told exactly. -/
namespace Go.Lg
open Go.RowKit
inductive Bel (m : Nat) : AV → Prop
  | undef : Bel m .undef
  | bool (b : Bool) : Bel m (.bool b)
  | int (k : IntKind) (n : Int) : Bel m (.int k n)
  | str (s : ByteArray) : Bel m (.str s)
  | list (full : Bool) (xs : List AV) (h : ∀ x ∈ xs, ∀ c ∈ x.cells, Bel m c) : Bel m (.list full xs)
  | own (id : Nat) (xs : List AV) (hid : id < m) (h : ∀ x ∈ xs, ∀ c ∈ x.cells, Bel m c) : Bel m (.own id xs)
  | row (id off len : Nat) (h : id < m) : Bel m (.row id off len)
  | ptr (id k : Nat) (h : id < m) : Bel m (.ptr id k)
  | rptr (id i k : Nat) (h : id < m) : Bel m (.rptr id i k)
  | eptr (cells : List AV) (k : Nat) (h : ∀ c ∈ cells, Bel m c) : Bel m (.eptr cells k)
  | nilp : Bel m .nilp
  | agg (cs : List AV) (h : ∀ c ∈ cs, Bel m c) : Bel m (.agg cs)
  | tup (cs : List AV) (h : ∀ c ∈ cs, Bel m c) : Bel m (.tup cs)
  | fn (f : FuncId) (cs : List AV) (h : ∀ c ∈ cs, Bel m c) : Bel m (.fn f cs)
  | yld (l : Nat) (h : l < m) : Bel m (.yld l)
  | nilf : Bel m .nilf
  | map (id : Nat) (h : id < m) : Bel m (.map id)
  | nilm : Bel m .nilm
  | iface (t : TypeId) (v : AV) (h : Bel m v) : Bel m (.iface t v)
  | nili : Bel m .nili
theorem Closed.bel {m : Nat} {a : AV} (h : Closed a) : Bel m a := by
  induction h with
  | undef => exact .undef
  | bool b => exact .bool b
  | int k n => exact .int k n
  | str s => exact .str s
  | list f xs h ih => exact .list f xs ih
  | eptr cells k h ih => exact .eptr cells k ih
  | nilp => exact .nilp
  | agg cs h ih => exact .agg cs ih
  | tup cs h ih => exact .tup cs ih
  | fn f cs h ih => exact .fn f cs ih
  | nilf => exact .nilf
  | nilm => exact .nilm
  | iface t v h ih => exact .iface t v ih
  | nili => exact .nili
theorem getOf {α : Type} {xs : List α} {x : α} (h : x ∈ xs) : ∃ i : Nat, xs[i]? = some x := List.getElem?_of_mem h
theorem Rep.bel {G : Gh} {m : Nat} {a : AV} {v : Value} (h : Rep G a v) (hj : ∀ id, m ≤ id → G.j id = none) (hT : ∀ id, m ≤ id → G.T id = none) : Bel m a := by
  have lt : ∀ {id B}, G.j id = some B → id < m := fun {id B} h => by
    rcases Nat.lt_or_ge id m with h' | h'
    · exact h'
    · rw [hj id h'] at h; cases h
  have pt : ∀ {cs : List AV} {vs : Array Value}, vs.size = cs.length → (∀ (i : Nat) (c : AV) (v : Value), cs[i]? = some c → vs[i]? = some v → Bel m c) → ∀ c ∈ cs, Bel m c := fun {cs vs} hl h c hc => by
    obtain ⟨i, hi⟩ := getOf hc
    have hlt : i < vs.size := by rw [hl]; exact (List.getElem?_eq_some_iff.1 hi).1
    exact h i c vs[i] hi (by simp [hlt])
  induction h with
  | undef v => exact .undef
  | bool b => exact .bool b
  | int k n => exact .int k n
  | str s => exact .str s
  | list0 f a c h => exact .list _ _ (fun x hx => by cases hx)
  | list full xs b o len cap es vs hl hc hf hs hI hv ih =>
    refine .list _ _ fun x hx c hc => ?_
    obtain ⟨i, hi⟩ := getOf hx
    obtain ⟨k, hk⟩ := getOf hc
    exact ih i x k c hi hk
  | own id xs v h ht ih =>
    obtain ⟨T, h1, _⟩ := ht
    cases ih with
    | list _ _ h => exact .own _ _ (by
        rcases Nat.lt_or_ge id m with h' | h'
        · exact h'
        · rw [hT id h'] at h1; cases h1) h
  | row id off len cap o B hj' hc h => exact .row _ _ _ (lt hj')
  | ptr id k B hj' => exact .ptr _ _ (lt hj')
  | rptr id i k B hj' => exact .rptr _ _ _ (lt hj')
  | eptr cells k b o vs hI hv ih =>
    refine .eptr _ _ fun c hc => ?_
    obtain ⟨i, hi⟩ := getOf hc
    exact ih i c hi
  | nilp => exact .nilp
  | agg cs vs hl hv ih => exact .agg _ (pt hl ih)
  | tup cs vs hl hv ih => exact .tup _ (pt hl ih)
  | fn f cs vs hl hv ih => exact .fn _ _ (pt hl ih)
  | yld l B hj' => exact .yld _ (lt hj')
  | nilf => exact .nilf
  | map id B hj' => exact .map _ (lt hj')
  | nilm => exact .nilm
  | iface t a v h ih => exact .iface _ _ ih
  | nili => exact .nili
theorem Bel.up {m n : Nat} {a : AV} (h : Bel m a) (hm : m ≤ n) : Bel n a := by
  induction h with
  | undef => exact .undef
  | bool b => exact .bool b
  | int k n => exact .int k n
  | str s => exact .str s
  | list f xs h ih => exact .list f xs ih
  | own id xs hid h ih => exact .own id xs (Nat.lt_of_lt_of_le hid hm) ih
  | row id off len h => exact .row _ _ _ (Nat.lt_of_lt_of_le h hm)
  | ptr id k h => exact .ptr _ _ (Nat.lt_of_lt_of_le h hm)
  | rptr id i k h => exact .rptr _ _ _ (Nat.lt_of_lt_of_le h hm)
  | eptr cells k h ih => exact .eptr cells k ih
  | nilp => exact .nilp
  | agg cs h ih => exact .agg cs ih
  | tup cs h ih => exact .tup cs ih
  | fn f cs h ih => exact .fn f cs ih
  | yld l h => exact .yld _ (Nat.lt_of_lt_of_le h hm)
  | nilf => exact .nilf
  | map id h => exact .map _ (Nat.lt_of_lt_of_le h hm)
  | nilm => exact .nilm
  | iface t v h ih => exact .iface t v ih
  | nili => exact .nili
def Gh.cut (G : Gh) (m : Nat) : Gh := ⟨fun id => if id < m then G.j id else none, G.I, fun id => if id < m then G.T id else none⟩
theorem Rep.cut {G : Gh} {m : Nat} {a : AV} {v : Value} (h : Rep G a v) (hb : Bel m a) : Rep (G.cut m) a v := by
  have jj : ∀ {id B}, id < m → G.j id = some B → (G.cut m).j id = some B := fun {id B} h1 h2 => by simp only [Gh.cut, h1, if_true]; exact h2
  induction h with
  | undef v => exact .undef v
  | bool b => exact .bool b
  | int k n => exact .int k n
  | str s => exact .str s
  | list0 f a c h => exact .list0 f a c h
  | list full xs b o len cap es vs hl hc hf hs hI hv ih =>
    cases hb with
    | list _ _ hx => exact .list full xs b o len cap es vs hl hc hf hs hI fun i x k c h1 h2 => ih i x k c h1 h2 (hx x (mem_of_get h1) c (mem_of_get h2))
  | own id xs v h ht ih =>
    cases hb with
    | own _ _ hid hx =>
      obtain ⟨T, h1, h2⟩ := ht
      exact .own id xs v (ih (.list _ _ hx)) ⟨T, by simp only [Gh.cut, hid, if_true]; exact h1, h2⟩
  | row id off len cap o B hj hc h => cases hb with | row _ _ _ hid => exact .row id off len cap o B (jj hid hj) hc h
  | ptr id k B hj => cases hb with | ptr _ _ hid => exact .ptr id k B (jj hid hj)
  | rptr id i k B hj => cases hb with | rptr _ _ _ hid => exact .rptr id i k B (jj hid hj)
  | eptr cells k b o vs hI hv ih => cases hb with | eptr _ _ hx => exact .eptr cells k b o vs hI fun i c h1 => ih i c h1 (hx c (mem_of_get h1))
  | nilp => exact .nilp
  | agg cs vs hl hv ih => cases hb with | agg _ hx => exact .agg cs vs hl fun i c v h1 h2 => ih i c v h1 h2 (hx c (mem_of_get h1))
  | tup cs vs hl hv ih => cases hb with | tup _ hx => exact .tup cs vs hl fun i c v h1 h2 => ih i c v h1 h2 (hx c (mem_of_get h1))
  | fn f cs vs hl hv ih => cases hb with | fn _ _ hx => exact .fn f cs vs hl fun i c v h1 h2 => ih i c v h1 h2 (hx c (mem_of_get h1))
  | yld l B hj => cases hb with | yld _ hid => exact .yld l B (jj hid hj)
  | nilf => exact .nilf
  | map id B hj => cases hb with | map _ hid => exact .map id B (jj hid hj)
  | nilm => exact .nilm
  | iface t a v h ih => cases hb with | iface _ _ hx => exact .iface t a v (ih hx)
  | nili => exact .nili
def BelO (m : Nat) : AObj → Prop
  | .box cs => ∀ c ∈ cs, Bel m c
  | .row _ elems _ => ∀ x ∈ elems, ∀ c ∈ x.cells, Bel m c
  | .tok _ _ => True
  | .loop L _ _ => ∀ t, t < L.nt → Bel m (L.env t)
  | .mp es => ∀ e ∈ es, Bel m e.2
  | .itr _ _ => True
theorem ObjOK.bel {G : Gh} {B : Blk} {w : World} {o : AObj} {m : Nat} (h : ObjOK G B w o) (hj : ∀ id, m ≤ id → G.j id = none) (hT : ∀ id, m ≤ id → G.T id = none) : BelO m o := by
  cases o with
  | box cells =>
    obtain ⟨vs, ty, h1, h2, h3, h4⟩ := h
    intro c hc
    obtain ⟨i, hi⟩ := getOf hc
    obtain ⟨v, _, hr⟩ := h3 i c hi
    exact hr.bel hj hT
  | row es elems froz =>
    obtain ⟨vs, ty, h1, h2, h3, h4, h5, h6, h7⟩ := h
    intro x hx c hc
    obtain ⟨i, hi⟩ := getOf hx
    obtain ⟨k, hk⟩ := getOf hc
    obtain ⟨v, _, hr⟩ := h6 i x k c hi hk
    exact hr.bel hj hT
  | tok => exact h.elim
  | loop L st pe =>
    obtain ⟨r, h1, h2, h3, h4, h5, h6, h7, h8, h9⟩ := h
    exact fun t ht => (h8 t ht).bel hj hT
  | mp es =>
    obtain ⟨xs, c, h1, h2, h3, h4⟩ := h
    intro e he
    obtain ⟨i, hi⟩ := getOf he
    obtain ⟨m, _, _, hr⟩ := h3 i e hi
    exact hr.bel hj hT
  | itr s pos => exact trivial
theorem ObjOK.cut {G : Gh} {B : Blk} {w : World} {o : AObj} {m : Nat} (h : ObjOK G B w o) (hb : BelO m o) : ObjOK (G.cut m) B w o := by
  cases o with
  | box cells =>
    obtain ⟨vs, ty, h1, h2, h3, h4⟩ := h
    exact ⟨vs, ty, h1, h2, fun i c hc => (h3 i c hc).imp fun v hv => ⟨hv.1, hv.2.cut (hb c (mem_of_get hc))⟩, h4⟩
  | row es elems froz =>
    obtain ⟨vs, ty, h1, h2, h3, h4, h5, h6, h7⟩ := h
    exact ⟨vs, ty, h1, h2, h3, h4, h5, fun i x k c hx hc => (h6 i x k c hx hc).imp fun v hv => ⟨hv.1, hv.2.cut (hb x (mem_of_get hx) c (mem_of_get hc))⟩, h7⟩
  | tok => exact h.elim
  | loop L st pe =>
    obtain ⟨r, h1, h2, h3, h4, h5, h6, h7, h8, h9⟩ := h
    exact ⟨r, h1, h2, h3, h4, h5, h6, h7, fun t ht => (h8 t ht).cut (hb t ht), h9⟩
  | mp es =>
    obtain ⟨xs, c, h1, h2, h3, h4⟩ := h
    exact ⟨xs, c, h1, h2, fun i e he => (h3 i e he).imp fun m hm => ⟨hm.1, hm.2.1, hm.2.2.cut (hb e (mem_of_get he))⟩, h4⟩
  | itr s pos => exact h
def ObjLe (o' o : AObj) : Prop := o' = o ∨ ∃ cs ds, o' = .box cs ∧ o = .box ds ∧ leL cs ds
theorem ObjLe.tok {o' : AObj} {es n : Nat} (h : ObjLe o' (.tok es n)) : o' = .tok es n := by
  rcases h with h | ⟨cs, ds, _, h, _⟩
  · exact h
  · cases h
theorem ObjLe.ok {G : Gh} {B : Blk} {w : World} {o' o : AObj} (h : ObjLe o' o) (k : ObjOK G B w o') : ObjOK G B w o := by
  rcases h with rfl | ⟨cs, ds, rfl, rfl, hle⟩
  · exact k
  · obtain ⟨vs, ty, g1, g2, g3, g4⟩ := k
    refine ⟨vs, ty, g1, by rw [g2, hle.len], fun j c hc => ?_, g4⟩
    obtain ⟨a, ha, hac⟩ := hle.at j c hc
    obtain ⟨u, hu, hru⟩ := g3 j a ha
    exact ⟨u, hu, hac G u hru⟩
structure Cut (σ σ' σ1 : Sto) : Prop where
  n1 : σ.next ≤ σ1.next
  n2 : σ1.next ≤ σ'.next
  hi : ∀ i, σ1.next ≤ i → σ1.get i = none ∨ σ1.get i = σ.get i
  lo : ∀ i o, i < σ1.next → σ1.get i = some o → (∃ o', σ'.get i = some o' ∧ ObjLe o' o) ∧ (σ.get i = some o ∨ BelO σ1.next o)
theorem cut_step {gl : Nat → List AV} {w0 w w' : World} {G G' : Gh} {σ σ' σ1 : Sto} (hi0 : Inv gl w0 G σ w) (hi : Inv gl w0 G' σ' w') (hx : Ext G σ w G' σ' w') (hc : Cut σ σ' σ1) (hgl : ∀ g c, c ∈ gl g → Closed c) :
    Inv gl w0 (G'.cut σ1.next) σ1 w' ∧ Ext G σ w (G'.cut σ1.next) σ1 w' ∧ ∀ b, Own (G'.cut σ1.next) σ1 b → Own G' σ' b := by
  have lt : ∀ i o, σ1.get i = some o → i < σ1.next := fun i o h => by
    rcases Nat.lt_or_ge i σ1.next with h' | h'
    · exact h'
    · rcases hc.hi i h' with e | e
      · rw [e] at h; cases h
      · rw [e] at h; exact Nat.lt_of_lt_of_le (hi0.live i o h) hc.n1
  have up : ∀ i o, σ1.get i = some o → ∃ o', σ'.get i = some o' ∧ ObjLe o' o := fun i o h => (hc.lo i o (lt i o h) h).1
  have jj : ∀ i B, (G'.cut σ1.next).j i = some B → i < σ1.next ∧ G'.j i = some B := fun i B h => by
    simp only [Gh.cut] at h
    split at h
    · rename_i h'; exact ⟨h', h⟩
    · cases h
  have hj0 : ∀ id, σ1.next ≤ id → G.j id = none := fun id h => hi0.fresh id (Nat.le_trans hc.n1 h)
  have hT0 : ∀ id, σ1.next ≤ id → G.T id = none := fun id h => hi0.freshT id (Nat.le_trans hc.n1 h)
  have bt : ∀ i b, TokB (G'.cut σ1.next) σ1 i b → TokB G' σ' i b := by
    rintro i b ⟨es, n, T, k, h1, h2, h3⟩
    obtain ⟨o', h4, h5⟩ := up i _ h1
    obtain rfl := h5.tok
    refine ⟨es, n, T, k, h4, ?_, h3⟩
    simp only [Gh.cut] at h2
    split at h2
    · exact h2
    · cases h2
  have ow : ∀ b, Own (G'.cut σ1.next) σ1 b → Own G' σ' b := by
    rintro b (⟨i, o, B, h1, h2, h3⟩ | ⟨i, h1⟩)
    · obtain ⟨o', h4, _⟩ := up i o h1
      exact .inl ⟨i, o', B, h4, (jj i B h2).2, h3⟩
    · exact .inr ⟨i, bt i b h1⟩
  have hle : G.le (G'.cut σ1.next) := by
    refine ⟨fun id B h => ?_, fun b o v h => hx.le.I b o v h, fun id T h => ?_⟩
    · have : id < σ1.next := by
        rcases Nat.lt_or_ge id σ1.next with h' | h'
        · exact h'
        · rw [hj0 id h'] at h; cases h
      simp only [Gh.cut, this, if_true]; exact hx.le.j id B h
    · have : id < σ1.next := by
        rcases Nat.lt_or_ge id σ1.next with h' | h'
        · exact h'
        · rw [hT0 id h'] at h; cases h
      simp only [Gh.cut, this, if_true]; exact hx.le.T id T h
  refine ⟨{
    below := hi.below
    imm := hi.imm
    gl := fun g k c hc' => (hi.gl g k c hc').imp fun v hv => ⟨hv.1, hv.2.closed (fun _ _ _ h => h) (hgl g c (mem_of_get hc'))⟩
    live := lt
    obj := fun i o B h1 h2 => by
      obtain ⟨hlt, h2'⟩ := jj i B h2
      obtain ⟨⟨o', h3, h4⟩, h5⟩ := hc.lo i o hlt h1
      obtain ⟨q1, q2⟩ := hi.obj i o' B h3 h2'
      have q3 := h4.ok q2
      refine ⟨q1, q3.cut ?_⟩
      rcases h5 with h5 | h5
      · have hnt : ∀ es n, o ≠ .tok es n := fun es n e => by subst e; exact q3.elim
        obtain ⟨B0, hB0⟩ := hi0.has i o h5 hnt
        exact (hi0.obj i o B0 h5 hB0).2.bel hj0 hT0
      · exact h5
    fresh := fun i h => by simp only [Gh.cut]; rw [if_neg (by omega)]
    inj := fun i i' o1 o2 B1 B2 h1 h2 h3 h4 h5 => by
      obtain ⟨p, hp, _⟩ := up i o1 h1
      obtain ⟨q, hq, _⟩ := up i' o2 h2
      exact hi.inj i i' p q B1 B2 hp hq (jj i B1 h3).2 (jj i' B2 h4).2 h5
    has := fun i o h1 hnt => by
      obtain ⟨o', h2, h3⟩ := up i o h1
      have hnt' : ∀ es n, o' ≠ .tok es n := fun es n e => by
        subst e
        rcases h3 with h3 | ⟨cs, ds, h3, _⟩
        · exact hnt es n h3.symm
        · cases h3
      obtain ⟨B, hB⟩ := hi.has i o' h2 hnt'
      exact ⟨B, by simp only [Gh.cut, lt i o h1, if_true]; exact hB⟩
    freshT := fun i h => by simp only [Gh.cut]; rw [if_neg (by omega)]
    tok := by
      refine ⟨fun i es n h1 => ?_, fun i i' b h1 h2 => hi.tok.inj i i' b (bt _ _ h1) (bt _ _ h2), fun i b h1 i' o B h2 h3 => ?_⟩
      · obtain ⟨o', h2, h3⟩ := up i _ h1
        obtain rfl := h3.tok
        obtain ⟨T, k1, k2, k3, k4⟩ := hi.tok.ok i es n h2
        exact ⟨T, by simp only [Gh.cut, lt i _ h1, if_true]; exact k1, k2, k3, k4⟩
      · obtain ⟨o', h4, _⟩ := up i' o h2
        exact hi.tok.oj i b (bt _ _ h1) i' o' B h4 (jj i' B h3).2 }, {
    le := hle
    size := hx.size
    keep := fun b hb hn => by
      obtain ⟨a1, a2, a3⟩ := hx.keep b hb hn
      exact ⟨a1, a2, fun h => a3 (ow b h)⟩
    next := hc.n1 }, ow⟩
def EnvC (m : Nat) (env env' env1 : Env) : Prop := ∀ t, env1 t = .undef ∨ ((env' t).le (env1 t) ∧ (env t = env1 t ∨ Bel m (env1 t)))
theorem codeS_cut {C : Cx} {ro : Option Nat} {nt : Nat} {c : Code} {env env' env1 : Env} {σ σ' σ1 : Sto} {e : Exit} (h : CodeS C ro nt c env σ e env' σ') (hc : Cut σ σ' σ1) (he : EnvC σ1.next env env' env1) : CodeS C ro nt c env σ e env1 σ1 := by
  intro w0 G a w hr cr hcr
  refine wpIn_mono (h w0 G a w hr cr hcr) fun e2 a' w' hp => ?_
  obtain ⟨rfl, G', ms, g2, g3, g4, g5⟩ := hp
  obtain ⟨q1, q2, q3⟩ := cut_step hr.inv g2.inv g3 hc C.glc
  refine ⟨rfl, G'.cut σ1.next, ms, ⟨q1, g2.env.size, fun t ht => ?_⟩, q2, g4, ⟨g5.nd, fun r hr' => ?_⟩⟩
  · rcases he t with h | ⟨h1, h2⟩
    · rw [h]; exact .undef _
    · refine (h1 G' _ (g2.env.rep t ht)).cut ?_
      rcases h2 with h2 | h2
      · rw [← h2]
        exact (hr.env.rep t ht).bel (fun id h => hr.inv.fresh id (Nat.le_trans hc.n1 h)) (fun id h => hr.inv.freshT id (Nat.le_trans hc.n1 h))
      · exact h2
  · obtain ⟨k1, k2, k3⟩ := g5.ok r hr'
    exact ⟨k1, k2, fun h => k3 (q3 _ h)⟩
theorem CallS.cut {C : Cx} {f : FuncId} {args : List AV} {σ σ' σ1 : Sto} {r r' : AV} (h : CallS C f args σ r' σ') (hr : r'.le r) (hb : Bel σ1.next r) (hc : Cut σ σ' σ1) : CallS C f args σ r σ1 := by
  intro w0 G w V hi hV hrep
  refine (h w0 G w V hi hV hrep).mono ?_
  rintro e w' ⟨G', v, rfl, h1, h2, h3⟩
  obtain ⟨q1, q2, _⟩ := cut_step hi h2 h3 hc C.glc
  exact ⟨G'.cut σ1.next, v, rfl, (hr G' v h1).cut hb, q1, q2⟩
theorem WK.cut {C : Cx} {ro : Option Nat} {nt : Nat} {k : K} {Q : Exit → Env → Sto → Prop} {env : Env} {σ : Sto}
    (h : WK C ro nt k (fun e env' σ' => Q e env' σ' ∨ ∃ env1 σ1, Cut σ σ' σ1 ∧ EnvC σ1.next env env' env1 ∧ Q e env1 σ1) env σ) : WK C ro nt k Q env σ := fun c hc => by
  obtain ⟨e, env', σ', h1, h2 | ⟨env1, σ1, h2, h3, h4⟩⟩ := h c hc
  · exact ⟨e, env', σ', h1, h2⟩
  · exact ⟨e, env1, σ1, codeS_cut h1 h2 h3, h4⟩
structure Sh (m : Nat) (σ σ1 : Sto) : Prop where
  n1 : σ.next ≤ σ1.next
  hi : ∀ i, σ1.next ≤ i → σ1.get i = none ∨ σ1.get i = σ.get i
  ok : ∀ i o, σ1.get i = some o → σ.get i = some o ∨ BelO m o
theorem Sh.refl (m : Nat) (σ : Sto) : Sh m σ σ := ⟨Nat.le_refl _, fun _ _ => .inr rfl, fun _ _ h => .inl h⟩
theorem Sh.add {m : Nat} {σ σ1 : Sto} (h : Sh m σ σ1) {o : AObj} (ho : BelO m o) : Sh m σ (σ1.add o) :=
  ⟨Nat.le_succ_of_le h.n1, fun i hi => by
    have hi : σ1.next + 1 ≤ i := hi
    simp only [Sto.get_add]
    rw [if_neg (by omega)]; exact h.hi i (by omega), fun i o' hi => by
    simp only [Sto.get_add] at hi
    split at hi
    · cases hi; exact .inr ho
    · exact h.ok i o' hi⟩
theorem Sh.set {m : Nat} {σ σ1 : Sto} (h : Sh m σ σ1) {id : Nat} {o : AObj} (hid : id < σ1.next) (ho : BelO m o) : Sh m σ (σ1.set id o) :=
  ⟨h.n1, fun i hi => by
    have hi : σ1.next ≤ i := hi
    simp only [Sto.get_set]
    rw [if_neg (by omega)]; exact h.hi i hi, fun i o' hi => by
    simp only [Sto.get_set] at hi
    split at hi
    · cases hi; exact .inr ho
    · exact h.ok i o' hi⟩
theorem Sh.del {m : Nat} {σ σ1 : Sto} (h : Sh m σ σ1) {id : Nat} : Sh m σ (σ1.del id) :=
  ⟨h.n1, fun i hi => by
    have hi : σ1.next ≤ i := hi
    simp only [Sto.get_del]
    split
    · exact .inl rfl
    · exact h.hi i hi, fun i o' hi => by
    simp only [Sto.get_del] at hi
    split at hi
    · cases hi
    · exact h.ok i o' hi⟩
theorem Cut.mk' {σ σ' σ1 : Sto} (h : Sh σ1.next σ σ1) (n2 : σ1.next ≤ σ'.next) (lo : ∀ i, i < σ1.next → σ'.get i = σ1.get i) : Cut σ σ' σ1 :=
  ⟨h.n1, n2, h.hi, fun i o hi ho => ⟨⟨o, (lo i hi).trans ho, .inl rfl⟩, h.ok i o ho⟩⟩
theorem Cut.same {σ σ' : Sto} (n2 : σ.next ≤ σ'.next) (lo : ∀ i, i < σ.next → σ'.get i = σ.get i) : Cut σ σ' σ := .mk' (.refl _ _) n2 lo
theorem Cut.refl (σ : Sto) : Cut σ σ σ := .same (Nat.le_refl _) fun _ _ => rfl
structure Sub (σ σ' : Sto) : Prop where
  next : σ.next ≤ σ'.next
  get : ∀ i, i < σ.next → σ'.get i = σ.get i
theorem Sub.refl (σ : Sto) : Sub σ σ := ⟨Nat.le_refl _, fun _ _ => rfl⟩
theorem Sub.trans {a b c : Sto} (h : Sub a b) (k : Sub b c) : Sub a c := ⟨Nat.le_trans h.next k.next, fun i hi => (k.get i (Nat.lt_of_lt_of_le hi h.next)).trans (h.get i hi)⟩
theorem Sub.add {σ σ' : Sto} (h : Sub σ σ') (o : AObj) : Sub σ (σ'.add o) := ⟨Nat.le_succ_of_le h.next, fun i hi => by
  have := h.next
  simp only [Sto.get_add]; rw [if_neg (by omega)]; exact h.get i hi⟩
theorem Sub.set {σ σ' : Sto} (h : Sub σ σ') {id : Nat} (hid : σ.next ≤ id) (o : AObj) : Sub σ (σ'.set id o) := ⟨h.next, fun i hi => by
  simp only [Sto.get_set]; rw [if_neg (by omega)]; exact h.get i hi⟩
theorem Sub.del {σ σ' : Sto} (h : Sub σ σ') {id : Nat} (hid : σ.next ≤ id) : Sub σ (σ'.del id) := ⟨h.next, fun i hi => by
  simp only [Sto.get_del]; rw [if_neg (by omega)]; exact h.get i hi⟩
theorem Sub.cut {σ σ' : Sto} (h : Sub σ σ') : Cut σ σ' σ := .same h.next h.get
def mkE : List (Nat × AV) → Env
  | [] => fun _ => .undef
  | (t, v) :: l => upd (mkE l) t v
theorem mkE_at : ∀ (l : List (Nat × AV)) (t : Nat), mkE l t = .undef ∨ ∃ v, (t, v) ∈ l ∧ mkE l t = v
  | [], t => .inl rfl
  | (u, v) :: l, t => by
    by_cases e : t = u
    · subst e; exact .inr ⟨v, List.mem_cons_self, by simp [mkE, upd]⟩
    · rcases mkE_at l t with h | ⟨v', h1, h2⟩
      · exact .inl (by simp [mkE, upd, e, h])
      · exact .inr ⟨v', List.mem_cons_of_mem _ h1, by simp [mkE, upd, e, h2]⟩
def envX (env : Env) (ts us : List Nat) (vs : List AV) : Env := mkE (us.zip vs ++ ts.map fun t => (t, env t))
def keptX (env env' : Env) : List Nat → Prop
  | [] => True
  | t :: ts => (env' t).le (env t) ∧ keptX env env' ts
def leX (env : Env) : List Nat → List AV → Prop
  | [], [] => True
  | u :: us, v :: vs => (env u).le v ∧ leX env us vs
  | _, _ => False
def madeX (m : Nat) (env' : Env) : List Nat → List AV → Prop
  | [], [] => True
  | u :: us, v :: vs => ((env' u).le v ∧ Bel m v) ∧ madeX m env' us vs
  | _, _ => False
def pick (env : Env) (ts : List Nat) : Env := mkE (ts.map fun t => (t, env t))
theorem pick_at {env : Env} : ∀ {ts : List Nat} {t : Nat}, t ∈ ts → pick env ts t = env t
  | u :: ts, t, ht => by
    simp only [pick, List.map_cons, mkE, upd]
    split
    · rename_i e; rw [e]
    · rename_i e
      rcases List.mem_cons.1 ht with h | h
      · exact absurd h e
      · exact pick_at h
theorem keptX_of {env env1 env' : Env} : ∀ {ts : List Nat}, (∀ t ∈ ts, env t = env1 t) → keptX env env' ts → keptX env1 env' ts
  | [], _, _ => trivial
  | t :: ts, h, k => ⟨by rw [← h t List.mem_cons_self]; exact k.1, keptX_of (fun u hu => h u (List.mem_cons_of_mem _ hu)) k.2⟩
theorem keptX_pick {env env' : Env} {ts : List Nat} (h : keptX (pick env ts) env' ts) : keptX env env' ts := keptX_of (fun t ht => pick_at ht) h
theorem keptX.mem {env env' : Env} : ∀ {ts : List Nat}, keptX env env' ts → ∀ t ∈ ts, (env' t).le (env t)
  | u :: ts, h, t, ht => by
    rcases List.mem_cons.1 ht with rfl | ht
    · exact h.1
    · exact keptX.mem h.2 t ht
theorem leX.mem {env : Env} : ∀ {us : List Nat} {vs : List AV}, leX env us vs → ∀ t v, (t, v) ∈ us.zip vs → (env t).le v
  | [], [], _, t, v, h => by simp at h
  | u :: us, w :: vs, h, t, v, hm => by
    simp only [List.zip_cons_cons, List.mem_cons, Prod.mk.injEq] at hm
    rcases hm with ⟨rfl, rfl⟩ | hm
    · exact h.1
    · exact leX.mem h.2 t v hm
theorem madeX.mem {m : Nat} {env : Env} : ∀ {us : List Nat} {vs : List AV}, madeX m env us vs → ∀ t v, (t, v) ∈ us.zip vs → (env t).le v ∧ Bel m v
  | [], [], _, t, v, h => by simp at h
  | u :: us, w :: vs, h, t, v, hm => by
    simp only [List.zip_cons_cons, List.mem_cons, Prod.mk.injEq] at hm
    rcases hm with ⟨rfl, rfl⟩ | hm
    · exact h.1
    · exact madeX.mem h.2 t v hm
theorem envX_at (env : Env) (ts us : List Nat) (vs : List AV) (t : Nat) : envX env ts us vs t = .undef ∨ (∃ v, (t, v) ∈ us.zip vs ∧ envX env ts us vs t = v) ∨ (t ∈ ts ∧ envX env ts us vs t = env t) := by
  rcases mkE_at (us.zip vs ++ ts.map fun t => (t, env t)) t with h | ⟨v, h1, h2⟩
  · exact .inl h
  · rcases List.mem_append.1 h1 with h | h
    · exact .inr (.inl ⟨v, h, h2⟩)
    · obtain ⟨u, hu, e⟩ := List.mem_map.1 h
      simp only [Prod.mk.injEq] at e
      obtain ⟨rfl, rfl⟩ := e
      exact .inr (.inr ⟨hu, h2⟩)
theorem envX_less {env : Env} {ts us : List Nat} {vs : List AV} (h : leX env us vs) : env.less (envX env ts us vs) := fun t => by
  rcases envX_at env ts us vs t with e | ⟨v, h1, e⟩ | ⟨h1, e⟩
  · rw [e]; exact AV.le_undef _
  · rw [e]; exact h.mem t v h1
  · rw [e]; exact .refl _
theorem envX_C {m : Nat} {env E env' : Env} {ts us : List Nat} {vs : List AV} (hE : ∀ t ∈ ts, env t = .undef ∨ E t = env t ∨ Bel m (env t)) (hk : keptX env env' ts) (hm : madeX m env' us vs) : EnvC m E env' (envX env ts us vs) := fun t => by
  rcases envX_at env ts us vs t with e | ⟨v, h1, e⟩ | ⟨h1, e⟩
  · exact .inl e
  · rw [e]; obtain ⟨q1, q2⟩ := hm.mem t v h1; exact .inr ⟨q1, .inr q2⟩
  · rw [e]
    rcases hE t h1 with h | h | h
    · exact .inl h
    · exact .inr ⟨hk.mem t h1, .inl h⟩
    · exact .inr ⟨hk.mem t h1, .inr h⟩
end Go.Lg
/- Lg, part Q: rules at exact states. -/
namespace Go.Lg
open Go.RowKit
theorem mkE_kept {env : Env} {us : List Nat} {vs : List AV} : ∀ {ts : List Nat} {t : Nat}, t ∈ ts → t ∉ us → envX env ts us vs t = env t := by
  intro ts t ht hu
  have hz : ∀ (us : List Nat) (vs : List AV), t ∉ us → mkE (us.zip vs ++ ts.map fun t => (t, env t)) t = mkE (ts.map fun t => (t, env t)) t := by
    intro us
    induction us with
    | nil => intro vs _; simp
    | cons u us ih =>
      intro vs hn
      cases vs with
      | nil => simp
      | cons v vs =>
        simp only [List.mem_cons, not_or] at hn
        simp only [List.zip_cons_cons, List.cons_append, mkE, upd]
        rw [if_neg hn.1]
        exact ih vs hn.2
  unfold envX
  rw [hz us vs hu]
  clear hz
  induction ts with
  | nil => cases ht
  | cons u ts ih =>
    simp only [List.map_cons, mkE, upd]
    split
    · rename_i e; rw [e]
    · rename_i e
      rcases List.mem_cons.1 ht with h | h
      · exact absurd h e
      · exact ih h
section
variable {C : Cx} {ro : Option Nat} {nt : Nat} {Q : Exit → Env → Sto → Prop} {env : Env} {σ : Sto}
def endX (ts us : List Nat) (env env' : Env) (vs : List AV) (σ σ' σ1 : Sto) : Prop := keptX env env' ts ∧ madeX σ1.next env' us vs ∧ Cut σ σ' σ1
theorem endX.cut {ts us : List Nat} {E env env' : Env} {vs : List AV} {σ0 σ' σ1 : Sto} (h : endX ts us env env' vs σ0 σ' σ1) (hE : ∀ t ∈ ts, env t = .undef ∨ E t = env t ∨ Bel σ1.next (env t)) :
    Cut σ0 σ' σ1 ∧ EnvC σ1.next E env' (envX env ts us vs) := ⟨h.2.2, envX_C hE h.1 h.2.1⟩
def joinQ {T : Type} (ts us : List Nat) (env : Env) (σ : Sto) (V : T → List AV) (S : T → Sto) (I : T → Prop) (Q : Exit → Env → Sto → Prop) : Exit → Env → Sto → Prop
  | .normal => fun env' σ' => ∃ t, I t ∧ endX ts us env env' (V t) σ σ' (S t)
  | e => Q e
def joinQ1 (ts us : List Nat) (env : Env) (σ : Sto) (vs : List AV) (σ1 : Sto) (Q : Exit → Env → Sto → Prop) : Exit → Env → Sto → Prop
  | .normal => fun env' σ' => endX ts us env env' vs σ σ' σ1
  | e => Q e
theorem WK.joinX {T : Type} {x y : K} (ts us : List Nat) (V : T → List AV) (S : T → Sto) (I : T → Prop) (h1 : WK C ro nt x (joinQ ts us (pick env ts) σ V S I Q) env σ)
    (h2 : ∀ t, I t → WK C ro nt y Q (envX env ts us (V t)) (S t)) : WK C ro nt (.seq x y) Q env σ := by
  refine WK.seq (WK.cut (h1.mono fun e env' σ' h => ?_))
  cases e with
  | normal =>
    obtain ⟨t, ht, hx1, hx2⟩ := h
    have hx : endX ts us env env' (V t) σ σ' (S t) := ⟨keptX_pick hx1, hx2⟩
    obtain ⟨q1, q2⟩ := hx.cut (E := env) (fun t ht => .inr (.inl rfl))
    exact .inr ⟨_, _, q1, q2, h2 t ht⟩
  | _ => exact .inl h
def loopX {T : Type} (ts us : List Nat) (env : Env) (σ : Sto) (V : T → List AV) (S : T → Sto) (I : T → Prop) (μ : T → Nat) (n : Nat) (Q : Exit → Env → Sto → Prop) : Exit → Env → Sto → Prop
  | .normal => fun env' σ' => ∃ t, I t ∧ μ t < n ∧ endX ts us env env' (V t) σ σ' (S t)
  | e => Q e
theorem WK.loopX {T : Type} {k : K} (ts us : List Nat) (V : T → List AV) (S : T → Sto) (I : T → Prop) (μ : T → Nat) (t0 : T) (hd : (ts.all fun t => !us.contains t) = true) (h0 : I t0) (hl : leX env us (V t0)) (hS : S t0 = σ)
    (round : ∀ t, I t → WK C ro nt k (loopX ts us (pick env ts) (S t) V S I μ (μ t) Q) (envX env ts us (V t)) (S t)) : WK C ro nt (.loop k) Q env σ := by
  have hd' : ∀ t ∈ ts, t ∉ us := fun t ht hu => by
    have := List.all_eq_true.1 hd t ht
    simp [hu] at this
  refine WK.less (env1 := envX env ts us (V t0)) (σ1 := σ) (envX_less hl) ⟨rfl, fun i o h => .inl h⟩ ?_
  intro c hc
  cases c with
  | loop a =>
    simp only [toK, K.loop.injEq] at hc
    refine W.loop_by (S := T) (fun t => (envX env ts us (V t), S t)) t0 I μ (fun t => .inl rfl) (by rw [hS]; exact .refl _) h0 fun t ht => ?_
    have hr := WK.cut (Q := fun e env' σ' => (e = .normal ∧ ∃ t', I t' ∧ μ t' < μ t ∧ env' = envX env ts us (V t') ∧ σ' = S t') ∨ (e ≠ .normal ∧ Q e env' σ')) ((round t ht).mono fun e env' σ' h => by
      cases e with
      | normal =>
        obtain ⟨t', h1, h2, hx1, hx2⟩ := h
        have hx : endX ts us env env' (V t') (S t) σ' (S t') := ⟨keptX_pick hx1, hx2⟩
        obtain ⟨q1, q2⟩ := hx.cut (E := envX env ts us (V t)) (fun u hu => .inr (.inl (mkE_kept hu (hd' u hu))))
        exact .inr ⟨_, _, q1, q2, .inl ⟨rfl, t', h1, h2, rfl, rfl⟩⟩
      | _ => exact .inl (.inr ⟨(fun h => by cases h), h⟩))
    refine (hr a hc).mono fun e env' σ' h => ?_
    rcases h with ⟨rfl, t', h1, h2, rfl, rfl⟩ | h
    · exact .inl ⟨rfl, t', h1, h2, fun _ => .inl rfl, .refl _⟩
    · exact .inr h
  | region id ops d => cases d <;> cases hc
  | _ => cases hc
def stepX (B B2 ti tl : Nat) (n : Nat) (ts us : List Nat) (env : Env) (i : Nat) (V : Nat → List AV) (S : Nat → Sto) (I : Prop) (Q : Exit → Env → Sto → Prop) : Exit → Env → Sto → Prop
  | .normal => fun env' σ' => env' ti = .int .i64 i ∧ env' tl = .int .i64 n ∧ I ∧ endX ts us env env' (V (i + 1)) (S i) σ' (S (i + 1))
  | .exit id => fun env' σ' => if id = B2 then env' ti = .int .i64 i ∧ env' tl = .int .i64 n ∧ I ∧ endX ts us env env' (V (i + 1)) (S i) σ' (S (i + 1)) else Q (inBlk B (.exit id)) env' σ'
  | e => Q e
theorem madeX_upd {m d : Nat} {w : AV} {env : Env} : ∀ {us : List Nat} {vs : List AV}, d ∉ us → madeX m env us vs → madeX m (upd env d w) us vs
  | [], [], _, _ => trivial
  | u :: us, v :: vs, hd, h => by
    simp only [List.mem_cons, not_or] at hd
    refine ⟨?_, madeX_upd hd.2 h.2⟩
    have : upd env d w u = env u := by simp only [upd]; rw [if_neg (fun e => hd.1 e.symm)]
    rw [this]; exact h.1
theorem keptX_upd {d : Nat} {w : AV} {env env' : Env} : ∀ {ts : List Nat}, d ∉ ts → keptX env env' ts → keptX env (upd env' d w) ts
  | [], _, _ => trivial
  | u :: us, hd, h => by
    simp only [List.mem_cons, not_or] at hd
    refine ⟨?_, keptX_upd hd.2 h.2⟩
    have : upd env' d w u = env' u := by simp only [upd]; rw [if_neg (fun e => hd.1 e.symm)]
    rw [this]; exact h.1
theorem WK.rangeI {B B2 tc ti tl tn t1 t2 t3 t4 : Nat} {inner : K} (n : Nat) (ts us : List Nat) (V : Nat → List AV) (S : Nat → Sto) (I : Nat → Prop) (hI0 : I 0) (hn : n < 9223372036854775807)
    (hb : (decide (tc < nt) && decide (ti < nt) && decide (tl < nt) && decide (tn < nt) && ti != tc && tl != tc && ti != tn && tl != tn && tl != ti && ts.all (fun t => !us.contains t && t != ti && t != tn && t != tl) && us.all (fun t => t != ti && t != tn && t != tl)) = true)
    (hi : env ti = .int .i64 0) (hl : env tl = .int .i64 n) (h0 : leX env us (V 0)) (hS : S 0 = σ)
    (step : ∀ i, i < n → I i → WK C ro nt inner (stepX B B2 ti tl n ts us (pick env ts) i V S (I (i + 1)) Q) (upd (envX env ts (ti :: tl :: us) (.int .i64 i :: .int .i64 n :: V i)) tc (.bool (decide ((i : Int) < (n : Int))))) (S i))
    (done : I n → Q .normal (upd (envX env ts (ti :: tl :: us) (.int .i64 n :: .int .i64 n :: V n)) tc (.bool false)) (S n)) :
    WK C ro nt (.block B (.loop (.seq (.reg [⟨some tc, .binOp .lss t1 (.tmp ti) (.tmp tl) t2, none⟩])
      (.seq (.cond (.tmp tc) .skip (.exit B)) (.seq (.block B2 inner) (.reg [⟨some tn, .binOp .add t3 (.tmp ti) (.const (.int .i64 1)) t4, none⟩, ⟨some ti, .move (.tmp tn), none⟩])))))) Q env σ := by
  simp only [Bool.and_eq_true, decide_eq_true_eq, bne_iff_ne, ne_eq] at hb
  obtain ⟨⟨⟨⟨⟨⟨⟨⟨⟨⟨b1, b2⟩, b3⟩, b4⟩, d1⟩, d2⟩, d3⟩, d4⟩, d5⟩, a1⟩, a2⟩ := hb
  have hts : ∀ t ∈ ts, t ∉ us ∧ t ≠ ti ∧ t ≠ tn ∧ t ≠ tl := fun t ht => by
    have := List.all_eq_true.1 a1 t ht
    simp only [Bool.and_eq_true, Bool.not_eq_true', bne_iff_ne, ne_eq] at this
    obtain ⟨⟨⟨q1, q2⟩, q3⟩, q4⟩ := this
    refine ⟨fun h => ?_, q2, q3, q4⟩
    rw [List.contains_iff_mem.2 h] at q1; cases q1
  have hus : ∀ t ∈ us, t ≠ ti ∧ t ≠ tn ∧ t ≠ tl := fun t ht => by
    have := List.all_eq_true.1 a2 t ht
    simp only [Bool.and_eq_true, bne_iff_ne, ne_eq] at this
    exact ⟨this.1.1, this.1.2, this.2⟩
  refine WK.block ?_
  refine WK.loopX (T := Nat) ts (ti :: tl :: us) (fun (i : Nat) => .int .i64 i :: .int .i64 n :: V i) S (fun i => i ≤ n ∧ I i) (fun i => n - i) 0 ?_ ⟨Nat.zero_le _, hI0⟩ ⟨by rw [hi]; exact .refl _, by rw [hl]; exact .refl _, h0⟩ hS ?_
  · rw [List.all_eq_true]
    intro t ht
    obtain ⟨q1, q2, q3, q4⟩ := hts t ht
    simp [q1, q2, q4]
  rintro i ⟨hin, hIi⟩
  have e_i : envX env ts (ti :: tl :: us) (.int .i64 i :: .int .i64 n :: V i) ti = .int .i64 i := by simp [envX, mkE, upd]
  have e_l : envX env ts (ti :: tl :: us) (.int .i64 i :: .int .i64 n :: V i) tl = .int .i64 n := by simp [envX, mkE, upd, d5]
  generalize hE : envX env ts (ti :: tl :: us) (.int .i64 i :: .int .i64 n :: V i) = E at *
  refine WK.seq (WK.reg ?_)
  rw [wpr_op rfl]
  simp only [aop, ev, b2, b3, if_true, e_i, e_l, binA, aInt, wpr_nil, putA, true_and, andK_normal]
  refine WK.seq ?_
  refine WK.cond (decide ((i : Int) < (n : Int))) (by simp [ev, b1, upd]) (fun ht => ?_) (fun hf => ?_)
  · have hlt : i < n := by simpa using ht
    refine WK.skip ?_
    simp only [andK_normal]
    refine WK.seq (WK.block ?_)
    have st := step i hlt hIi
    rw [hE] at st
    refine st.mono ?_
    have fin : ∀ env' σ', env' ti = .int .i64 i ∧ env' tl = .int .i64 n ∧ I (i + 1) ∧ endX ts us (pick env ts) env' (V (i + 1)) (S i) σ' (S (i + 1)) →
        WK C ro nt (.reg [⟨some tn, .binOp .add t3 (.tmp ti) (.const (.int .i64 1)) t4, none⟩, ⟨some ti, .move (.tmp tn), none⟩])
          (Lg.loopX ts (ti :: tl :: us) (pick env ts) (S i) (fun (i : Nat) => .int .i64 i :: .int .i64 n :: V i) S (fun i => i ≤ n ∧ I i) (fun i => n - i) (n - i) (fun e => Q (inBlk B e))) env' σ' := by
      rintro env' σ' ⟨h1, h2, hI1, h3, h4, h5⟩
      refine WK.reg ?_
      rw [wpr_op rfl]
      simp only [aop, ev, b2, if_true, h1, ofV, ofV1, binA, aInt, putA, true_and]
      rw [wpr_op rfl]
      simp only [aop, ev, b4, if_true, wpr_nil, putA, true_and]
      have hw : IntKind.i64.wrap ((i : Int) + 1) = ((i + 1 : Nat) : Int) := by rw [wrap_lt (by omega) (by omega)]; rfl
      rw [hw]
      have hn1 : tn ∉ us := fun h => (hus tn h).2.1 rfl
      have hn2 : ti ∉ us := fun h => (hus ti h).1 rfl
      have hn3 : tn ∉ ts := fun h => (hts tn h).2.2.1 rfl
      have hn4 : ti ∉ ts := fun h => (hts ti h).2.1 rfl
      refine ⟨i + 1, ⟨hlt, hI1⟩, (by show n - (i + 1) < n - i; omega), keptX_upd hn4 (keptX_upd hn3 h3), ⟨⟨?_, .int _ _⟩, ⟨?_, .int _ _⟩, madeX_upd hn2 (madeX_upd hn1 h4)⟩, h5⟩
      · simp only [upd, if_true]; exact .refl _
      · simp only [upd]; rw [if_neg d5, if_neg d4, h2]; exact .refl _
    rintro e env' σ' hq
    cases e with
    | normal => exact fin _ _ hq
    | exit id =>
      simp only [stepX] at hq
      by_cases he : id = B2
      · rw [if_pos he] at hq
        rw [show inBlk B2 (.exit id) = .normal from if_pos he]
        exact fin _ _ hq
      · rw [if_neg he] at hq
        rw [show inBlk B2 (.exit id) = .exit id from if_neg he]
        exact hq
    | _ => exact hq
  · have hge : i = n := by
      have : ¬ ((i : Int) < (n : Int)) := by simpa using hf
      omega
    subst hge
    refine WK.exit ?_
    simp only [andK_exit]
    rw [hf]
    show Q (inBlk B (.exit B)) _ _
    simp only [inBlk, if_true]
    have dn := done hIi
    rw [hE] at dn
    exact dn
theorem WK.rangeX {B B2 tc ti tl tn t1 t2 t3 t4 : Nat} {inner : K} (n : Nat) (ts us : List Nat) (V : Nat → List AV) (S : Nat → Sto) (hn : n < 9223372036854775807)
    (hb : (decide (tc < nt) && decide (ti < nt) && decide (tl < nt) && decide (tn < nt) && ti != tc && tl != tc && ti != tn && tl != tn && tl != ti && ts.all (fun t => !us.contains t && t != ti && t != tn && t != tl) && us.all (fun t => t != ti && t != tn && t != tl)) = true)
    (hi : env ti = .int .i64 0) (hl : env tl = .int .i64 n) (h0 : leX env us (V 0)) (hS : S 0 = σ)
    (step : ∀ i, i < n → WK C ro nt inner (stepX B B2 ti tl n ts us (pick env ts) i V S True Q) (upd (envX env ts (ti :: tl :: us) (.int .i64 i :: .int .i64 n :: V i)) tc (.bool (decide ((i : Int) < (n : Int))))) (S i))
    (done : Q .normal (upd (envX env ts (ti :: tl :: us) (.int .i64 n :: .int .i64 n :: V n)) tc (.bool false)) (S n)) :
    WK C ro nt (.block B (.loop (.seq (.reg [⟨some tc, .binOp .lss t1 (.tmp ti) (.tmp tl) t2, none⟩])
      (.seq (.cond (.tmp tc) .skip (.exit B)) (.seq (.block B2 inner) (.reg [⟨some tn, .binOp .add t3 (.tmp ti) (.const (.int .i64 1)) t4, none⟩, ⟨some ti, .move (.tmp tn), none⟩])))))) Q env σ :=
  WK.rangeI n ts us V S (fun _ => True) trivial hn hb hi hl h0 hS (fun i hi _ => step i hi) fun _ => done
end
theorem leL.append : ∀ {a b c d : List AV}, leL a b → leL c d → leL (a ++ c) (b ++ d)
  | [], [], _, _, _, h => h
  | _ :: _, _ :: _, _, _, h, k => ⟨h.1, leL.append h.2 k⟩
structure CallX (C : Cx) (f : FuncId) (args : List AV) (σ : Sto) (r : AV) (σ1 : Sto) : Prop where
  here : ∃ fn c, Body C.P f fn c
  call : CallS C f args σ r σ1
theorem callX_of {C : Cx} {f : FuncId} {fn : Func} {c : Code} {args : List AV} {σ σ1 : Sto} {r : AV} (hb : Body C.P f fn c) (hl : args.length ≤ fn.ntmps)
    (h : W C none fn.ntmps c (fun e env' σ' => (e = .normal ∨ e = .ret) ∧ allP (resOK C fn.ntmps env' σ') fn.results.toList ∧ ((oneOr (fn.results.toList.map (resA C fn.ntmps env' σ'))).le r ∧ Bel σ1.next r) ∧ Cut σ σ' σ1) (env0 args) σ) : CallX C f args σ r σ1 := by
  obtain ⟨r', σ', h1, ⟨h2, h3⟩, h4⟩ := call_of (R := fun x σ' => (x.le r ∧ Bel σ1.next r) ∧ Cut σ σ' σ1) hb hl h
  exact ⟨⟨fn, c, hb⟩, h1.cut h2 h3 h4⟩
theorem PCall.callX {C : Cx} {f : FuncId} {args : List AV} {r : AV} (h : PCall C f args r) (σ : Sto) : CallX C f args σ r σ := ⟨h.here, h.callS σ⟩
theorem callK_x {C : Cx} {nt : Nat} {d : Option Nat} {cl : Call} {rs : List RO} {K : Env → Sto → Prop} {env : Env} {σ σ1 : Sto} {f : Operand} {g : FuncId} {caps args : List AV} {r : AV} (h : CallX C g (args ++ caps) σ r σ1)
    (hc : cl.callee = .value f) (hf : ev C nt env f = .fn g caps) (ha : leL (cl.args.toList.map (ev C nt env)) args) (hk : wpr C nt rs K (putA env d r) σ1) : callK C nt d cl rs K env σ := by
  obtain ⟨⟨fn, c, hb⟩, h⟩ := h
  refine callK_gen hb (args := cl.args.toList.map (ev C nt env)) (h.le (leL.append ha (leL.refl caps)) (.refl r)) hc hf rfl hk
theorem WK.own {C : Cx} {ro : Option Nat} {nt : Nat} {k : K} {Q : Exit → Env → Sto → Prop} {env : Env} {σ : Sto} (t es : Nat) {xs : List AV} (hlt : t < nt) (ht : env t = .list true xs)
    (h : WK C ro nt k Q (upd env t (.own σ.next xs)) (σ.add (.tok es xs.length))) : WK C ro nt k Q env σ := by
  intro c hc
  obtain ⟨e, env', σ', h1, h2⟩ := h c hc
  refine ⟨e, env', σ', fun w0 G a w hr cr hcr => ?_, h2⟩
  have hrt := hr.env.rep t hlt
  rw [ht] at hrt
  obtain ⟨G', k1, k2, k3, k4⟩ := own_new hr.inv hrt es
  refine wpIn_mono (h1 w0 G' a w ⟨k3, hr.env.size, fun u hu => ?_⟩ cr (hcr.mono k1)) fun e2 a' w' hp => ?_
  · simp only [upd]
    split
    · rename_i e; rw [e]; exact k2
    · exact (hr.env.rep u hu).mono k1
  · obtain ⟨g1, G2, ms, g2, g3, g4⟩ := hp
    exact ⟨g1, G2, ms, g2, k4.trans g3, g4⟩
theorem WK.ownBox {C : Cx} {ro : Option Nat} {nt : Nat} {k : K} {Q : Exit → Env → Sto → Prop} {env : Env} {σ : Sto} (id j es : Nat) {cs : List AV} {xs : List AV} (hs : σ.get id = some (.box cs)) (ht : cs[j]? = some (.list true xs))
    (h : WK C ro nt k Q env ((σ.add (.tok es xs.length)).set id (.box (cs.set j (.own σ.next xs))))) : WK C ro nt k Q env σ := by
  intro c hc
  obtain ⟨e, env', σ', h1, h2⟩ := h c hc
  refine ⟨e, env', σ', fun w0 G a w hr cr hcr => ?_, h2⟩
  obtain ⟨B, hB⟩ := hr.inv.has id _ hs (fun es n e => by cases e)
  obtain ⟨hb, vs, ty, g1, g2, g3, g4⟩ := hr.inv.obj id _ B hs hB
  obtain ⟨v, hv, hrv⟩ := g3 j _ ht
  obtain ⟨G', k1, k2, k3, k4⟩ := own_new hr.inv hrv es
  have hlt := hr.inv.live id _ hs
  have hne : id ≠ σ.next := by omega
  have hs' : (σ.add (.tok es xs.length)).get id = some (.box cs) := by simp only [Sto.get_add]; rw [if_neg hne]; exact hs
  have hB' := k1.j _ _ hB
  obtain ⟨hb', vs', ty', q1, q2, q3, q4⟩ := k3.obj id _ B hs' hB'
  have hok : ObjOK G' B w (.box (cs.set j (.own σ.next xs))) := by
    refine ⟨vs', ty', q1, by simpa using q2, fun i c hc => ?_, q4⟩
    rw [List.getElem?_set] at hc
    split at hc
    · rename_i e
      subst e
      split at hc
      · cases hc
        rw [q1] at g1; cases g1
        exact ⟨v, hv, k2⟩
      · cases hc
    · exact q3 i c hc
  have i2 := k3.set id _ _ B hs' hB' rfl rfl rfl rfl (fun _ _ => rfl) (fun k v hI => by rw [q4 k] at hI; cases hI) hok
  have x2 : Ext G' (σ.add (.tok es xs.length)) w G' ((σ.add (.tok es xs.length)).set id (.box (cs.set j (.own σ.next xs)))) w := .set id _ _ B hs' hB' rfl (fun _ _ => rfl)
  refine wpIn_mono (h1 w0 G' a w ⟨i2, hr.env.size, fun u hu => (hr.env.rep u hu).mono k1⟩ cr (hcr.mono k1)) fun e2 a' w' hp => ?_
  obtain ⟨g1, G2, ms, g2, g3, g4⟩ := hp
  exact ⟨g1, G2, ms, g2, (k4.trans x2).trans g3, g4⟩
theorem WK.joinA {C : Cx} {ro : Option Nat} {nt : Nat} {Q : Exit → Env → Sto → Prop} {env : Env} {σ : Sto} {T : Type} {x y : K} (ts us : List Nat) (V : T → List AV) (S : T → Sto) (I : T → Prop) (h1 : WK C ro nt x (joinQ ts us (pick env ts) σ V S I Q) env σ)
    (h2 : ∀ t, I t → WK C ro nt y Q (envX env ts us (V t)) (S t)) : WK C ro nt x (andK C ro nt y Q) env σ := by
  refine WK.cut (h1.mono fun e env' σ' h => ?_)
  cases e with
  | normal =>
    obtain ⟨t, ht, hx1, hx2⟩ := h
    have hx : endX ts us env env' (V t) σ σ' (S t) := ⟨keptX_pick hx1, hx2⟩
    obtain ⟨q1, q2⟩ := hx.cut (E := env) (fun t ht => .inr (.inl rfl))
    exact .inr ⟨_, _, q1, q2, h2 t ht⟩
  | _ => exact .inl h
theorem WK.joinB {C : Cx} {ro : Option Nat} {nt : Nat} {Q : Exit → Env → Sto → Prop} {env : Env} {σ : Sto} {x y : K} (ts us : List Nat) (vs : List AV) (σ1 : Sto) (h1 : WK C ro nt x (joinQ1 ts us (pick env ts) σ vs σ1 Q) env σ)
    (h2 : WK C ro nt y Q (envX env ts us vs) σ1) : WK C ro nt x (andK C ro nt y Q) env σ :=
  WK.joinA (T := Unit) ts us (fun _ => vs) (fun _ => σ1) (fun _ => True) (h1.mono fun e env' σ' h => by
    cases e with
    | normal => exact ⟨(), trivial, h⟩
    | _ => exact h) fun _ _ => h2
theorem WK.own0 {C : Cx} {ro : Option Nat} {nt : Nat} {k : K} {Q : Exit → Env → Sto → Prop} {env : Env} {σ : Sto} (t es : Nat) (hlt : t < nt) (ht : env t = .list true [])
    (h : WK C ro nt k Q (upd env t (.own σ.next [])) (σ.add (.tok es 0))) : WK C ro nt k Q env σ := WK.own t es hlt ht h
theorem WK.ownBox0 {C : Cx} {ro : Option Nat} {nt : Nat} {k : K} {Q : Exit → Env → Sto → Prop} {env : Env} {σ : Sto} (id j es : Nat) {cs : List AV} (hs : σ.get id = some (.box cs)) (ht : cs[j]? = some (.list true []))
    (h : WK C ro nt k Q env ((σ.add (.tok es 0)).set id (.box (cs.set j (.own σ.next []))))) : WK C ro nt k Q env σ := WK.ownBox id j es hs ht h
theorem callK_x0 {C : Cx} {nt : Nat} {d : Option Nat} {cl : Call} {rs : List RO} {K : Env → Sto → Prop} {env : Env} {σ σ1 : Sto} {f : Operand} {g : FuncId} {args : List AV} {r : AV} (h : CallX C g args σ r σ1)
    (hc : cl.callee = .value f) (hf : ev C nt env f = .fn g []) (ha : leL (cl.args.toList.map (ev C nt env)) args) (hk : wpr C nt rs K (putA env d r) σ1) : callK C nt d cl rs K env σ :=
  callK_x (caps := []) (by rw [List.append_nil]; exact h) hc hf ha hk
theorem pcall_x {C : Cx} {f : FuncId} {args : List AV} {r : AV} (h : CallX C f args .none r .none) (hcl : ∀ x ∈ args, Closed x) (hclr : Closed r) : PCall C f args r := ⟨h.here, hcl, hclr, _, h.call⟩
theorem le_refl' (a : AV) : a.le a = True := eq_true (.refl a)
theorem le_int' (k : IntKind) (m n : Int) : (AV.int k m).le (.int k n) = (m = n) := propext ⟨fun h => by
  have := h ⟨fun _ => none, fun _ _ => none, fun _ => none⟩ _ (.int k m)
  cases this; rfl, fun h => by rw [h]; exact .refl _⟩
theorem le_bool' (m n : Bool) : (AV.bool m).le (.bool n) = (m = n) := propext ⟨fun h => by
  have := h ⟨fun _ => none, fun _ _ => none, fun _ => none⟩ _ (.bool m)
  cases this; rfl, fun h => by rw [h]; exact .refl _⟩
theorem le_undef' (a : AV) : a.le .undef = True := eq_true (AV.le_undef a)
theorem bel_undef {m : Nat} : Bel m .undef = True := eq_true .undef
theorem bel_bool {m : Nat} (b : Bool) : Bel m (.bool b) = True := eq_true (.bool b)
theorem bel_int {m : Nat} (k : IntKind) (n : Int) : Bel m (.int k n) = True := eq_true (.int k n)
theorem bel_str {m : Nat} (s : ByteArray) : Bel m (.str s) = True := eq_true (.str s)
theorem bel_nilp {m : Nat} : Bel m .nilp = True := eq_true .nilp
theorem bel_nilf {m : Nat} : Bel m .nilf = True := eq_true .nilf
theorem bel_nilm {m : Nat} : Bel m .nilm = True := eq_true .nilm
theorem bel_nili {m : Nat} : Bel m .nili = True := eq_true .nili
theorem bel_ptr {m id k : Nat} : Bel m (.ptr id k) = (id < m) := propext ⟨fun h => by cases h; assumption, .ptr _ _⟩
theorem bel_row {m id o l : Nat} : Bel m (.row id o l) = (id < m) := propext ⟨fun h => by cases h; assumption, .row _ _ _⟩
theorem bel_map {m id : Nat} : Bel m (.map id) = (id < m) := propext ⟨fun h => by cases h; assumption, .map _⟩
theorem bel_yld {m id : Nat} : Bel m (.yld id) = (id < m) := propext ⟨fun h => by cases h; assumption, .yld _⟩
def BelL (m : Nat) : List AV → Prop
  | [] => True
  | x :: xs => Bel m x ∧ BelL m xs
theorem belL_iff {m : Nat} : ∀ {l : List AV}, BelL m l ↔ ∀ c ∈ l, Bel m c
  | [] => ⟨fun _ c h => (by cases h), fun _ => trivial⟩
  | x :: xs => ⟨fun h c hc => by
      rcases List.mem_cons.1 hc with rfl | hc
      · exact h.1
      · exact belL_iff.1 h.2 c hc, fun h => ⟨h x List.mem_cons_self, belL_iff.2 fun c hc => h c (List.mem_cons_of_mem _ hc)⟩⟩
def BelE (m : Nat) (l : List AV) : Prop := ∀ x ∈ l, ∀ c ∈ x.cells, Bel m c
theorem bel_agg {m : Nat} {cs : List AV} : Bel m (.agg cs) = BelL m cs := propext ⟨fun h => by cases h; exact belL_iff.2 ‹_›, fun h => .agg _ (belL_iff.1 h)⟩
theorem bel_tup {m : Nat} {cs : List AV} : Bel m (.tup cs) = BelL m cs := propext ⟨fun h => by cases h; exact belL_iff.2 ‹_›, fun h => .tup _ (belL_iff.1 h)⟩
theorem bel_fn {m : Nat} {f : FuncId} {cs : List AV} : Bel m (.fn f cs) = BelL m cs := propext ⟨fun h => by cases h; exact belL_iff.2 ‹_›, fun h => .fn _ _ (belL_iff.1 h)⟩
theorem bel_list {m : Nat} {f : Bool} {xs : List AV} : Bel m (.list f xs) = BelE m xs := propext ⟨fun h => by cases h; assumption, .list _ _⟩
theorem bel_own {m id : Nat} {xs : List AV} : Bel m (.own id xs) = (id < m ∧ BelE m xs) := propext ⟨fun h => by cases h; exact ⟨‹_›, ‹_›⟩, fun h => .own _ _ h.1 h.2⟩
theorem belL_nil {m : Nat} : BelL m [] = True := (rfl)
theorem belL_cons {m : Nat} {x : AV} {xs : List AV} : BelL m (x :: xs) = (Bel m x ∧ BelL m xs) := (rfl)
theorem belE_nil {m : Nat} : BelE m [] = True := eq_true (fun x h => by cases h)
theorem belE_append {m : Nat} {xs ys : List AV} : BelE m (xs ++ ys) = (BelE m xs ∧ BelE m ys) := propext ⟨fun h => ⟨fun x hx => h x (List.mem_append_left _ hx), fun x hx => h x (List.mem_append_right _ hx)⟩, fun h x hx => by
  rcases List.mem_append.1 hx with h' | h'
  · exact h.1 x h'
  · exact h.2 x h'⟩
theorem belE_cons {m : Nat} {x : AV} {xs : List AV} : BelE m (x :: xs) = (BelL m x.cells ∧ BelE m xs) := propext ⟨fun h => ⟨belL_iff.2 (h x List.mem_cons_self), fun y hy => h y (List.mem_cons_of_mem _ hy)⟩, fun h y hy => by
  rcases List.mem_cons.1 hy with rfl | hy
  · exact belL_iff.1 h.1
  · exact h.2 y hy⟩
theorem belE_map {A : Type} {m : Nat} {f : A → AV} (hf : ∀ a, Closed (f a)) (l : List A) : BelE m (l.map f) := fun x hx c hc => by
  obtain ⟨a, _, rfl⟩ := List.mem_map.1 hx
  have h := hf a
  generalize hv : f a = v at *
  cases v with
  | agg cs => cases h with | agg _ h => exact (h c hc).bel
  | _ => simp only [AV.cells, List.mem_singleton] at hc; subst hc; exact h.bel
theorem belE_ints {m : Nat} {k : IntKind} (l : List Int) : BelE m (l.map (AV.int k)) = True := eq_true (belE_map (fun _ => .int _ _) l)
theorem belO_box {m : Nat} {cs : List AV} : BelO m (.box cs) = BelL m cs := propext ⟨belL_iff.2, belL_iff.1⟩
theorem belO_row {m es : Nat} {xs : List AV} {f : Bool} : BelO m (.row es xs f) = BelE m xs := (rfl)
theorem belO_tok {m es n : Nat} : BelO m (.tok es n) = True := (rfl)
theorem mkE_nil : mkE [] = fun _ => .undef := (rfl)
theorem mkE_cons {t : Nat} {v : AV} {l : List (Nat × AV)} : mkE ((t, v) :: l) = upd (mkE l) t v := (rfl)
theorem keptX_nil {env env' : Env} : keptX env env' [] = True := (rfl)
theorem keptX_cons {env env' : Env} {t : Nat} {ts : List Nat} : keptX env env' (t :: ts) = ((env' t).le (env t) ∧ keptX env env' ts) := (rfl)
theorem leX_nil {env : Env} : leX env [] [] = True := (rfl)
theorem leX_cons {env : Env} {u : Nat} {us : List Nat} {v : AV} {vs : List AV} : leX env (u :: us) (v :: vs) = ((env u).le v ∧ leX env us vs) := (rfl)
theorem madeX_nil {m : Nat} {env : Env} : madeX m env [] [] = True := (rfl)
theorem madeX_cons {m : Nat} {env : Env} {u : Nat} {us : List Nat} {v : AV} {vs : List AV} : madeX m env (u :: us) (v :: vs) = (((env u).le v ∧ Bel m v) ∧ madeX m env us vs) := (rfl)
theorem leL_nil : leL [] [] = True := (rfl)
theorem leL_cons {a b : AV} {as bs : List AV} : leL (a :: as) (b :: bs) = (a.le b ∧ leL as bs) := (rfl)
section
variable {T : Type} {ts us : List Nat} {env : Env} {σ : Sto} {V : T → List AV} {W : Nat → List AV} {S : T → Sto} {Z : Nat → Sto} {I : T → Prop} {J : Prop} {μ : T → Nat} {n i B B2 ti tl id : Nat} {Q : Exit → Env → Sto → Prop}
theorem joinQ1_normal {vs : List AV} {σ1 : Sto} : joinQ1 ts us env σ vs σ1 Q .normal = fun env' σ' => endX ts us env env' vs σ σ' σ1 := (rfl)
theorem joinQ1_ret {vs : List AV} {σ1 : Sto} : joinQ1 ts us env σ vs σ1 Q .ret = Q .ret := (rfl)
theorem joinQ1_exit {vs : List AV} {σ1 : Sto} : joinQ1 ts us env σ vs σ1 Q (.exit id) = Q (.exit id) := (rfl)
theorem joinQ_normal : joinQ ts us env σ V S I Q .normal = fun env' σ' => ∃ t, I t ∧ endX ts us env env' (V t) σ σ' (S t) := (rfl)
theorem joinQ_ret : joinQ ts us env σ V S I Q .ret = Q .ret := (rfl)
theorem joinQ_exit : joinQ ts us env σ V S I Q (.exit id) = Q (.exit id) := (rfl)
theorem loopX_normal : loopX ts us env σ V S I μ n Q .normal = fun env' σ' => ∃ t, I t ∧ μ t < n ∧ endX ts us env env' (V t) σ σ' (S t) := (rfl)
theorem loopX_ret : loopX ts us env σ V S I μ n Q .ret = Q .ret := (rfl)
theorem loopX_exit : loopX ts us env σ V S I μ n Q (.exit id) = Q (.exit id) := (rfl)
theorem stepX_normal : stepX B B2 ti tl n ts us env i W Z J Q .normal = fun env' σ' => env' ti = .int .i64 i ∧ env' tl = .int .i64 n ∧ J ∧ endX ts us env env' (W (i + 1)) (Z i) σ' (Z (i + 1)) := (rfl)
theorem stepX_exit : stepX B B2 ti tl n ts us env i W Z J Q (.exit id) = fun env' σ' => if id = B2 then env' ti = .int .i64 i ∧ env' tl = .int .i64 n ∧ J ∧ endX ts us env env' (W (i + 1)) (Z i) σ' (Z (i + 1)) else Q (inBlk B (.exit id)) env' σ' := (rfl)
theorem stepX_ret : stepX B B2 ti tl n ts us env i W Z J Q .ret = Q .ret := (rfl)
end
theorem Sto.set_add' {σ : Sto} {id : Nat} {o o' : AObj} (h : id = σ.next) : (σ.add o).set id o' = σ.add o' := by rw [h]; exact Sto.set_add σ o o'
theorem Sto.set_add_ne {σ : Sto} {id : Nat} {o o' : AObj} (h : (id = σ.next) = False) : (σ.add o).set id o' = (σ.set id o').add o := by
  simp only [Sto.set, Sto.add, Sto.mk.injEq, and_true]
  funext i
  by_cases e : i = id
  · have hne : ¬ i = σ.next := by rw [e, h]; exact fun x => x
    simp [e, h]
  · simp [e]
theorem Sto.ext' {a b : Sto} (h1 : a.next = b.next) (h2 : ∀ i, a.get i = b.get i) : a = b := by
  cases a; cases b
  simp only [Sto.mk.injEq]
  exact ⟨funext h2, h1⟩
theorem Cut.by' {σ σ' σ1 : Sto} (n1 : σ.next ≤ σ1.next) (n2 : σ1.next ≤ σ'.next) (hi : ∀ i, σ1.next ≤ i → σ1.get i = none ∨ σ1.get i = σ.get i)
    (lo : ∀ i o, i < σ1.next → σ1.get i = some o → σ'.get i = some o ∧ (σ.get i = some o ∨ BelO σ1.next o)) : Cut σ σ' σ1 :=
  ⟨n1, n2, hi, fun i o h1 h2 => ⟨⟨o, (lo i o h1 h2).1, .inl rfl⟩, (lo i o h1 h2).2⟩⟩
def OKE (es : Nat) (x : AV) : Prop := x.cells.length = es ∧ x.cells.all AV.one = true
def OKEs (es : Nat) (xs : List AV) : Prop := ∀ x ∈ xs, OKE es x
theorem oke_int {k : IntKind} {n : Int} : OKE 1 (.int k n) = True := eq_true ⟨rfl, rfl⟩
theorem oke_bool {b : Bool} : OKE 1 (.bool b) = True := eq_true ⟨rfl, rfl⟩
theorem oke_str {b : ByteArray} : OKE 1 (.str b) = True := eq_true ⟨rfl, rfl⟩
theorem oke_list {f : Bool} {xs : List AV} : OKE 1 (.list f xs) = True := eq_true ⟨rfl, rfl⟩
theorem oke_own {f : Nat} {xs : List AV} : OKE 1 (.own f xs) = True := eq_true ⟨rfl, rfl⟩
theorem oke_ptr {f k : Nat} : OKE 1 (.ptr f k) = True := eq_true ⟨rfl, rfl⟩
theorem oke_encF {f : Fm} : OKE 3 (encF f) = True := eq_true (by rw [encF_eq]; exact ⟨rfl, rfl⟩)
theorem oke_agg {es : Nat} {cs : List AV} : OKE es (.agg cs) = (cs.length = es ∧ cs.all AV.one = true) := (rfl)
theorem okes_nil {es : Nat} : OKEs es [] = True := eq_true (fun x h => by cases h)
theorem okes_cons {es : Nat} {x : AV} {xs : List AV} : OKEs es (x :: xs) = (OKE es x ∧ OKEs es xs) := propext ⟨fun h => ⟨h x List.mem_cons_self, fun y hy => h y (List.mem_cons_of_mem _ hy)⟩, fun h y hy => by
  rcases List.mem_cons.1 hy with rfl | hy
  · exact h.1
  · exact h.2 y hy⟩
theorem okes_append {es : Nat} {xs ys : List AV} : OKEs es (xs ++ ys) = (OKEs es xs ∧ OKEs es ys) := propext ⟨fun h => ⟨fun x hx => h x (List.mem_append_left _ hx), fun x hx => h x (List.mem_append_right _ hx)⟩, fun h x hx => by
  rcases List.mem_append.1 hx with h' | h'
  · exact h.1 x h'
  · exact h.2 x h'⟩
theorem okes_map {A : Type} {es : Nat} {f : A → AV} {l : List A} (h : ∀ a, OKE es (f a)) : OKEs es (l.map f) := fun x hx => by
  obtain ⟨a, _, rfl⟩ := List.mem_map.1 hx
  exact h a
theorem okes_encFs {l : List Fm} : OKEs 3 (encFs l) = True := eq_true (by
  induction l with
  | nil => exact fun x h => by cases h
  | cons f l ih =>
    intro x hx
    rcases List.mem_cons.1 hx with rfl | hx
    · rw [oke_encF]; trivial
    · exact ih x hx)
theorem srcA_list {C : Cx} {σ : Sto} {t es : Nat} {f : Bool} {xs : List AV} (h1 : (slE C t).isSome = true) (h2 : OKEs es xs) : (srcA C σ t es (.list f xs)).1 ∧ (srcA C σ t es (.list f xs)).2 = xs := ⟨⟨h1, fun y hy => (h2 y hy).1, fun y hy => (h2 y hy).2⟩, rfl⟩
theorem srcA_own {C : Cx} {σ : Sto} {t es : Nat} {f : Nat} {xs : List AV} (h1 : (slE C t).isSome = true) (h2 : OKEs es xs) : (srcA C σ t es (.own f xs)).1 ∧ (srcA C σ t es (.own f xs)).2 = xs := ⟨⟨h1, fun y hy => (h2 y hy).1, fun y hy => (h2 y hy).2⟩, rfl⟩
theorem appK_aop {C : Cx} {nt : Nat} {d : Option Nat} {as : Array Operand} {ts : Array TypeId} {rs : List RO} {K : Env → Sto → Prop} {env : Env} {σ : Sto}
    (h : (aop C (ev C nt env) σ (.call ⟨.builtin .append, as, ts⟩)).c ∧ wpr C nt rs K (putA env d (aop C (ev C nt env) σ (.call ⟨.builtin .append, as, ts⟩)).v) (aop C (ev C nt env) σ (.call ⟨.builtin .append, as, ts⟩)).s) : appK C nt d as ts rs K env σ :=
  ⟨_, _, fun o ho => by
    have ho' : o.op = .call ⟨.builtin .append, as, ts⟩ := ho
    have h1 := h.1
    rw [← ho'] at h1 ⊢; exact opStep_of_snd aop_sound h1 (aop_noDefer h1), h.2⟩
theorem appD_aop {C : Cx} {nt : Nat} {d : Option Nat} {as : Array Operand} {ts : Array TypeId} {rs : List (RO × DF)} {hist : List Sto} {ob : Obl} {K : Env → Sto → Prop} {env : Env} {σ : Sto}
    (h : (aop C (ev C nt env) σ (.call ⟨.builtin .append, as, ts⟩)).c ∧ oblOK (aop C (ev C nt env) σ (.call ⟨.builtin .append, as, ts⟩)).s ob ∧ wpD C nt K rs (σ :: hist) (oblDec ob) (putA env d (aop C (ev C nt env) σ (.call ⟨.builtin .append, as, ts⟩)).v) (aop C (ev C nt env) σ (.call ⟨.builtin .append, as, ts⟩)).s) : appD C nt d as ts rs hist ob K env σ :=
  ⟨_, _, fun o ho => by
    have ho' : o.op = .call ⟨.builtin .append, as, ts⟩ := ho
    have h1 := h.1
    rw [← ho'] at h1 ⊢; exact opStep_of_snd aop_sound h1 (aop_noDefer h1), h.2⟩
theorem appK_own {C : Cx} {nt : Nat} {d : Option Nat} {rs : List RO} {K : Env → Sto → Prop} {env : Env} {σ : Sto} {s x : Operand} {t t2 : TypeId} {ei : TyI} {id es n : Nat} {xs ys : List AV}
    (hs : slE C t = some ei) (hv : ev C nt env s = .own id xs) (hg : σ.get id = some (.tok es n)) (he : es = ei.size) (hn : n = xs.length) (hok : OKEs es xs) {f : Bool} (hx : (ev C nt env x).fz = .list f ys) (ht2 : (slE C t2).isSome = true) (hy : OKEs es ys)
    (hz : ei.zero.cells.size = ei.size) (hb : (n + ys.length) * ei.bytes ≤ 140737488355328) (hb2 : n + ys.length ≤ 9223372036854775807)
    (hk : wpr C nt rs K (putA env d (.own id (xs ++ ys))) (σ.set id (.tok es (n + ys.length)))) : appK C nt d #[s, x] #[t, t2] rs K env σ := by
  subst he
  have hsrc : (srcA C σ t2 ei.size (ev C nt env x)).1 ∧ (srcA C σ t2 ei.size (ev C nt env x)).2 = ys := by
    generalize ev C nt env x = v at hx
    cases v with
    | own id' zs => simp only [AV.fz, AV.list.injEq] at hx; obtain ⟨_, rfl⟩ := hx; exact srcA_own ht2 hy
    | list f' zs => simp only [AV.fz, AV.list.injEq] at hx; obtain ⟨_, rfl⟩ := hx; exact srcA_list ht2 hy
    | _ => simp [AV.fz] at hx
  have e : aop C (ev C nt env) σ (.call ⟨.builtin .append, #[s, x], #[t, t2]⟩) = appA C σ t2 ei (ev C nt env s) (ev C nt env x) := by
    show (match slE C t with | some ei => appA C σ t2 ei (ev C nt env s) (ev C nt env x) | none => bad σ) = _
    rw [hs]
  refine appK_aop ?_
  rw [e, hv]
  have ea : appA C σ t2 ei (.own id xs) (ev C nt env x) = ⟨(srcA C σ t2 ei.size (ev C nt env x)).1 ∧ n = xs.length ∧ ei.size = ei.size ∧ (∀ x ∈ xs, x.cells.length = ei.size) ∧ (∀ x ∈ xs, x.cells.all AV.one = true) ∧ ei.zero.cells.size = ei.size ∧
        (xs.length + (srcA C σ t2 ei.size (ev C nt env x)).2.length) * ei.bytes ≤ 140737488355328 ∧ xs.length + (srcA C σ t2 ei.size (ev C nt env x)).2.length ≤ 9223372036854775807,
        .own id (xs ++ (srcA C σ t2 ei.size (ev C nt env x)).2), σ.set id (.tok ei.size (n + (srcA C σ t2 ei.size (ev C nt env x)).2.length))⟩ := by simp only [appA, hg]
  rw [ea, hsrc.2]
  exact ⟨⟨hsrc.1, hn, rfl, fun x hx => (hok x hx).1, fun x hx => (hok x hx).2, hz, by rw [← hn]; exact hb, by rw [← hn]; exact hb2⟩, hk⟩
theorem append_res {C : Cx} {ρ : Operand → AV} {σ : Sto} {s x : Operand} {t t2 : TypeId} {ei : TyI} {id es n : Nat} {xs ys : List AV} {f : Bool}
    (hs : slE C t = some ei) (hx : (ρ x).fz = .list f ys) (ht2 : (slE C t2).isSome = true) (hy : OKEs ei.size ys) (hz : ei.zero.cells.size = ei.size) (hok : OKEs ei.size xs)
    (hv : (ρ s = .own id xs ∧ σ.get id = some (.tok es n) ∧ es = ei.size ∧ n = xs.length) ∨ (ρ s = .list true xs ∧ id = σ.next ∧ n = xs.length))
    (hb : (n + ys.length) * ei.bytes ≤ 140737488355328) (hb2 : n + ys.length ≤ 9223372036854775807) :
    (aop C ρ σ (.call ⟨.builtin .append, #[s, x], #[t, t2]⟩)).c ∧ (aop C ρ σ (.call ⟨.builtin .append, #[s, x], #[t, t2]⟩)).v = .own id (xs ++ ys) ∧
      ((ρ s = .own id xs ∧ (aop C ρ σ (.call ⟨.builtin .append, #[s, x], #[t, t2]⟩)).s = σ.set id (.tok es (n + ys.length))) ∨ (ρ s = .list true xs ∧ (aop C ρ σ (.call ⟨.builtin .append, #[s, x], #[t, t2]⟩)).s = σ.add (.tok ei.size (n + ys.length)))) := by
  have hsrc : (srcA C σ t2 ei.size (ρ x)).1 ∧ (srcA C σ t2 ei.size (ρ x)).2 = ys := by
    generalize ρ x = v at hx
    cases v with
    | own id' zs => simp only [AV.fz, AV.list.injEq] at hx; obtain ⟨_, rfl⟩ := hx; exact srcA_own ht2 hy
    | list f' zs => simp only [AV.fz, AV.list.injEq] at hx; obtain ⟨_, rfl⟩ := hx; exact srcA_list ht2 hy
    | _ => simp [AV.fz] at hx
  have e : aop C ρ σ (.call ⟨.builtin .append, #[s, x], #[t, t2]⟩) = appA C σ t2 ei (ρ s) (ρ x) := by
    show (match slE C t with | some ei => appA C σ t2 ei (ρ s) (ρ x) | none => bad σ) = _
    rw [hs]
  rw [e]
  rcases hv with ⟨h1, h2, h3, h4⟩ | ⟨h1, h2, h4⟩
  · rw [h1]
    simp only [appA, h2, hsrc.2]
    subst h3
    exact ⟨⟨hsrc.1, h4, rfl, fun x hx => (hok x hx).1, fun x hx => (hok x hx).2, hz, by rw [← h4]; exact hb, by rw [← h4]; exact hb2⟩, by simp, .inl (by simp)⟩
  · rw [h1]
    simp only [appA, hsrc.2]
    subst h2
    refine ⟨⟨hsrc.1, fun x hx => (hok x hx).1, fun x hx => (hok x hx).2, hz, by rw [← h4]; exact hb, by rw [← h4]; exact hb2⟩, by simp, .inr (by simp [h4])⟩
theorem appK_row {C : Cx} {nt : Nat} {d : Option Nat} {rs : List RO} {K : Env → Sto → Prop} {env : Env} {σ : Sto} {s x : Operand} {t t2 : TypeId} {ei : TyI} {xs ys : List AV} {f : Bool}
    (hs : slE C t = some ei) (hv : ev C nt env s = .list true xs) (hok : OKEs ei.size xs) (hx : (ev C nt env x).fz = .list f ys) (ht2 : (slE C t2).isSome = true) (hy : OKEs ei.size ys) (hne : ys ≠ [])
    (hz : ei.zero.cells.size = ei.size) (hb : (xs.length + ys.length) * ei.bytes ≤ 140737488355328) (hb2 : xs.length + ys.length ≤ 9223372036854775807)
    (hk : wpr C nt rs K (putA env d (.row σ.next 0 (xs.length + ys.length))) (σ.add (.row ei.size (xs ++ ys) false))) : appK C nt d #[s, x] #[t, t2] rs K env σ := by
  have hsrc : (srcA C σ t2 ei.size (ev C nt env x)).1 ∧ (srcA C σ t2 ei.size (ev C nt env x)).2 = ys := by
    generalize ev C nt env x = v at hx
    cases v with
    | own id' zs => simp only [AV.fz, AV.list.injEq] at hx; obtain ⟨_, rfl⟩ := hx; exact srcA_own ht2 hy
    | list f' zs => simp only [AV.fz, AV.list.injEq] at hx; obtain ⟨_, rfl⟩ := hx; exact srcA_list ht2 hy
    | _ => simp [AV.fz] at hx
  obtain ⟨ti, e, ht, hd, he⟩ := slE_some hs
  refine ⟨_, _, fun o ho => ?_, hk⟩
  have hsnd := snd_append_full (σ := σ) (ρ := ev C nt env) (ys := ys) ht hd he ho hv fun w0 G a w hi hr => by
    have := srcA_ok hsrc.1 hi hr
    rw [hsrc.2] at this; exact this
  refine opStep_of_snd hsnd ⟨hne, fun x hx => (hok x hx).1, fun x hx => (hok x hx).2, hz, hb, hb2⟩ (fun c hc => ?_)
  rw [ho] at hc; cases hc
theorem appD_full {C : Cx} {nt : Nat} {d : Option Nat} {rs : List (RO × DF)} {hist : List Sto} {ob : Obl} {K : Env → Sto → Prop} {env : Env} {σ : Sto} {s x : Operand} {t t2 : TypeId} {ei : TyI} {xs ys : List AV} {f : Bool}
    (hs : slE C t = some ei) (hv : ev C nt env s = .list true xs) (hok : OKEs ei.size xs) (hx : (ev C nt env x).fz = .list f ys) (ht2 : (slE C t2).isSome = true) (hy : OKEs ei.size ys)
    (hz : ei.zero.cells.size = ei.size) (hb : (xs.length + ys.length) * ei.bytes ≤ 140737488355328) (hb2 : xs.length + ys.length ≤ 9223372036854775807)
    (hk : oblOK (σ.add (.tok ei.size (xs.length + ys.length))) ob ∧ wpD C nt K rs (σ :: hist) (oblDec ob) (putA env d (.own σ.next (xs ++ ys))) (σ.add (.tok ei.size (xs.length + ys.length)))) : appD C nt d #[s, x] #[t, t2] rs hist ob K env σ := by
  obtain ⟨h1, h2, h3⟩ := append_res (ρ := ev C nt env) (σ := σ) (id := σ.next) (es := 0) hs hx ht2 hy hz hok (.inr ⟨hv, rfl, rfl⟩) hb hb2
  refine appD_aop ?_
  rw [h2]
  rcases h3 with ⟨h3, _⟩ | ⟨_, h3⟩
  · rw [hv] at h3; cases h3
  · rw [h3]; exact ⟨h1, hk⟩
theorem appD_own {C : Cx} {nt : Nat} {d : Option Nat} {rs : List (RO × DF)} {hist : List Sto} {ob : Obl} {K : Env → Sto → Prop} {env : Env} {σ : Sto} {s x : Operand} {t t2 : TypeId} {ei : TyI} {id es n : Nat} {xs ys : List AV} {f : Bool}
    (hs : slE C t = some ei) (hv : ev C nt env s = .own id xs) (hg : σ.get id = some (.tok es n)) (he : es = ei.size) (hn : n = xs.length) (hok : OKEs es xs) (hx : (ev C nt env x).fz = .list f ys) (ht2 : (slE C t2).isSome = true) (hy : OKEs es ys)
    (hz : ei.zero.cells.size = ei.size) (hb : (n + ys.length) * ei.bytes ≤ 140737488355328) (hb2 : n + ys.length ≤ 9223372036854775807)
    (hk : oblOK (σ.set id (.tok es (n + ys.length))) ob ∧ wpD C nt K rs (σ :: hist) (oblDec ob) (putA env d (.own id (xs ++ ys))) (σ.set id (.tok es (n + ys.length)))) : appD C nt d #[s, x] #[t, t2] rs hist ob K env σ := by
  subst he
  obtain ⟨h1, h2, h3⟩ := append_res (ρ := ev C nt env) (σ := σ) (id := id) (es := ei.size) (n := n) hs hx ht2 hy hz hok (.inl ⟨hv, hg, rfl, hn⟩) hb hb2
  refine appD_aop ?_
  rw [h2]
  rcases h3 with ⟨_, h3⟩ | ⟨h3, _⟩
  · rw [h3]; exact ⟨h1, hk⟩
  · rw [hv] at h3; cases h3
theorem fz_list {f : Bool} {xs : List AV} : (AV.list f xs).fz = .list f xs := (rfl)
theorem fz_own {f : Nat} {xs : List AV} : (AV.own f xs).fz = .list false xs := (rfl)
theorem takeM {A B : Type} {l : List A} {k : Nat} (h : k < l.length) (f : A → B) : (l.take (k + 1)).map f = (l.take k).map f ++ [f l[k]] := by
  rw [← List.take_append_getElem h, List.map_append]; rfl
theorem le_own (id : Nat) (xs : List AV) : (AV.own id xs).le (.list false xs) := fun G v h => h.fz'
attribute [go_sem] oke_int oke_bool oke_str oke_list oke_own oke_ptr oke_encF oke_agg okes_nil okes_cons okes_append okes_encFs fz_list fz_own
attribute [go_sem] pick Sto.set_add' Sto.set_add_ne joinQ1_normal joinQ1_ret joinQ1_exit le_refl' le_int' le_bool' le_undef' bel_undef bel_bool bel_int bel_str bel_nilp bel_nilf bel_nilm bel_nili bel_ptr bel_row bel_map bel_yld bel_agg bel_tup bel_fn bel_list bel_own belL_nil belL_cons belE_nil belE_append belE_cons belE_ints belO_box belO_row belO_tok
  mkE_nil mkE_cons keptX_nil keptX_cons leX_nil leX_cons madeX_nil madeX_cons leL_nil leL_cons joinQ_normal joinQ_ret joinQ_exit loopX_normal loopX_ret loopX_exit stepX_normal stepX_exit stepX_ret envX endX List.map_cons List.map_nil and_true true_and and_self
theorem belE_encFs {m : Nat} (l : List Fm) : BelE m (encFs l) = True := eq_true fun x hx c hc => (closedFs l x hx c hc).bel
theorem bel_encF {m : Nat} (f : Fm) : Bel m (encF f) = True := eq_true (closedF f).bel
theorem cut_refl (σ : Sto) : Cut σ σ σ = True := eq_true (.refl σ)
attribute [go_sem] belE_encFs bel_encF cut_refl
end Go.Lg
/- Sets of at most 64 numbers as machine words. -/
namespace Go.Lg
def uB (b : BitVec 64) : Int := (b.toNat : Int)
theorem uB_ofInt (b : BitVec 64) : BitVec.ofInt 64 (uB b) = b := by unfold uB; rw [BitVec.ofInt_natCast]; simp
theorem wrap_u64 (n : Int) (h0 : 0 ≤ n) (h1 : n < 18446744073709551616) : IntKind.u64.wrap n = n := IntWalk.u64_in n ⟨h0, by omega⟩
theorem uB_lt (b : BitVec 64) : 0 ≤ uB b ∧ uB b < 18446744073709551616 := by unfold uB; have := b.isLt; omega
theorem or_uB (a b : BitVec 64) : orI .u64 (uB a) (uB b) = uB (a ||| b) := by
  unfold orI
  show IntKind.u64.wrap ((BitVec.ofInt 64 (uB a) ||| BitVec.ofInt 64 (uB b)).toNat : Int) = _
  rw [uB_ofInt, uB_ofInt]
  exact wrap_u64 _ (uB_lt _).1 (uB_lt _).2
theorem and_uB (a b : BitVec 64) : andI .u64 (uB a) (uB b) = uB (a &&& b) := by
  unfold andI
  show IntKind.u64.wrap ((BitVec.ofInt 64 (uB a) &&& BitVec.ofInt 64 (uB b)).toNat : Int) = _
  rw [uB_ofInt, uB_ofInt]
  exact wrap_u64 _ (uB_lt _).1 (uB_lt _).2
theorem not_uB (a : BitVec 64) : notI .u64 (uB a) = uB (~~~ a) := by
  unfold notI
  show IntKind.u64.wrap ((BitVec.ofInt 64 18446744073709551615 ^^^ BitVec.ofInt 64 (uB a)).toNat : Int) = _
  rw [uB_ofInt]
  have : BitVec.ofInt 64 18446744073709551615 ^^^ a = ~~~ a := by
    have h1 : (BitVec.ofInt 64 18446744073709551615) = BitVec.allOnes 64 := by decide
    rw [h1, BitVec.allOnes_xor]
  rw [this]
  exact wrap_u64 _ (uB_lt _).1 (uB_lt _).2
theorem wrap_u64_mod (n : Nat) : IntKind.u64.wrap (n : Int) = ((n % 18446744073709551616 : Nat) : Int) := by
  show ((n : Int) % 2 ^ 64 : Int) = _
  omega
theorem shl_uB (k : Nat) : shlI .u64 1 (k : Int) = uB (1#64 <<< k) := by
  unfold shlI
  show IntKind.u64.wrap (1 * 2 ^ (min ((k : Int).toNat) 64)) = _
  rw [Int.toNat_natCast, Int.one_mul]
  have : ((2 : Int) ^ (min k 64)) = ((2 ^ (min k 64) : Nat) : Int) := by push_cast; rfl
  rw [this, wrap_u64_mod]
  unfold uB
  rw [BitVec.toNat_shiftLeft]
  congr 1
  simp only [BitVec.toNat_ofNat, Nat.shiftLeft_eq]
  by_cases h : k ≤ 64
  · rw [Nat.min_eq_left h]; simp
  · rw [Nat.min_eq_right (by omega)]
    have hk : k = 64 + (k - 64) := by omega
    rw [hk, Nat.pow_add]
    simp [← Nat.mul_assoc, Nat.mul_mod_right]
theorem uB_zero : uB 0#64 = 0 := rfl
theorem uB_inj {a b : BitVec 64} : uB a = uB b ↔ a = b := by
  unfold uB
  constructor
  · intro h; exact BitVec.eq_of_toNat_eq (by omega)
  · rintro rfl; rfl
theorem uB_beq (a b : BitVec 64) : (uB a == uB b) = (a == b) := by
  rw [Bool.eq_iff_iff]; simp [uB_inj]
theorem uB_beq0 (a : BitVec 64) : (uB a == 0) = (a == 0#64) := by rw [← uB_zero, uB_beq]
theorem ones_uB : uB (BitVec.allOnes 64) = 18446744073709551615 := by decide
theorem sub1_uB (k : Nat) (hk : k < 64) : IntKind.u64.wrap (uB (1#64 <<< k) - 1) = uB (1#64 <<< k - 1#64) := by
  have h1 : (1#64 <<< k).toNat = 2 ^ k := by
    rw [BitVec.toNat_shiftLeft]
    simp only [BitVec.toNat_ofNat, Nat.shiftLeft_eq]
    have : 2 ^ k < 2 ^ 64 := Nat.pow_lt_pow_right (by omega) hk
    simp
    omega
  have hp : 0 < 2 ^ k := Nat.pos_of_ne_zero (by simp)
  have hl := (uB_lt (1#64 <<< k))
  unfold uB at *
  rw [wrap_u64 _ (by omega) (by omega), BitVec.toNat_sub, h1]
  have : 2 ^ k < 2 ^ 64 := Nat.pow_lt_pow_right (by omega) hk
  simp only [BitVec.toNat_ofNat]
  omega
def setB (p : Nat → Bool) : Nat → BitVec 64
  | 0 => 0#64
  | k + 1 => if p k = true then setB p k ||| (1#64 <<< k) else setB p k
theorem setB_get (p : Nat → Bool) : ∀ (n i : Nat), i < 64 → (setB p n).getLsbD i = (decide (i < n) && p i)
  | 0, i, _ => by simp [setB]
  | n + 1, i, h => by
    simp only [setB]
    by_cases hp : p n = true
    · rw [if_pos hp, BitVec.getLsbD_or, setB_get p n i h, BitVec.getLsbD_shiftLeft]
      by_cases e : i = n
      · subst e; simp [h, hp]
      · by_cases hl : i < n
        · simp [hl, Nat.lt_succ_of_lt hl]
        · have h1 : ¬ i < n + 1 := by omega
          have h2 : i - n ≠ 0 := by omega
          simp [hl, h1, h, h2]
    · rw [if_neg hp, setB_get p n i h]
      by_cases e : i = n
      · subst e; simp [hp]
      · have : (i < n) ↔ (i < n + 1) := by omega
        simp [this]
def allB (n : Nat) : BitVec 64 := if n = 64 then BitVec.allOnes 64 else (1#64 <<< n) - 1#64
theorem allB_get (n i : Nat) (hn : n ≤ 64) (hi : i < 64) : (allB n).getLsbD i = decide (i < n) := by
  unfold allB
  by_cases e : n = 64
  · rw [if_pos e, BitVec.getLsbD_allOnes, e]
  · rw [if_neg e]
    have h1 : (1#64 <<< n).toNat = 2 ^ n := by
      rw [BitVec.toNat_shiftLeft]
      simp only [BitVec.toNat_ofNat, Nat.shiftLeft_eq]
      have : 2 ^ n < 2 ^ 64 := Nat.pow_lt_pow_right (by omega) (by omega)
      simp
      omega
    have hp : 0 < 2 ^ n := Nat.pos_of_ne_zero (by simp)
    have hlt : 2 ^ n < 2 ^ 64 := Nat.pow_lt_pow_right (by omega) (by omega)
    have h2 : ((1#64 <<< n) - 1#64).toNat = 2 ^ n - 1 := by
      rw [BitVec.toNat_sub, h1]
      simp only [BitVec.toNat_ofNat]
      omega
    rw [BitVec.getLsbD, h2, Nat.testBit_two_pow_sub_one]
attribute [go_sem] or_uB and_uB not_uB shl_uB uB_beq uB_beq0
theorem bit_uB (z : BitVec 64) (l : Nat) : (andI .u64 (shrI .u64 (uB z) (l : Int)) 1 == 1) = z.getLsbD l := by
  have h1 : shrI .u64 (uB z) (l : Int) = uB (z >>> l) := by
    unfold shrI
    show (uB z).fdiv (2 ^ (min ((l : Int).toNat) 64)) = _
    rw [Int.toNat_natCast]
    unfold uB
    have hp : (2 : Int) ^ (min l 64) = ((2 ^ (min l 64) : Nat) : Int) := by push_cast; rfl
    rw [hp, Int.fdiv_eq_ediv_of_nonneg _ (Int.natCast_nonneg _), ← Int.natCast_ediv, BitVec.toNat_ushiftRight, Nat.shiftRight_eq_div_pow]
    by_cases h : l ≤ 64
    · rw [Nat.min_eq_left h]
    · rw [Nat.min_eq_right (by omega)]
      have hz := z.isLt
      rw [Nat.div_eq_of_lt hz, Nat.div_eq_of_lt (Nat.lt_of_lt_of_le hz (Nat.pow_le_pow_right (by omega) (by omega)))]
  have h2 : (1 : Int) = uB 1#64 := rfl
  rw [h1, h2, and_uB, uB_beq, Bool.eq_iff_iff, beq_iff_eq]
  constructor
  · intro h
    have := congrArg (fun x => x.getLsbD 0) h
    simpa using this
  · intro h
    ext i hi
    by_cases e : i = 0
    · subst e; simpa using h
    · simp [e]
attribute [go_sem] bit_uB
def AllCl : List AV → Prop
  | [] => True
  | x :: xs => Closed x ∧ AllCl xs
theorem allCl_iff : ∀ {l : List AV}, AllCl l → ∀ c ∈ l, Closed c
  | x :: xs, h, c, hc => by
    rcases List.mem_cons.1 hc with rfl | hc
    · exact h.1
    · exact allCl_iff h.2 c hc
def ClE (l : List AV) : Prop := ∀ x ∈ l, ∀ c ∈ x.cells, Closed c
theorem cl_int {k : IntKind} {n : Int} : Closed (.int k n) = True := eq_true (.int _ _)
theorem cl_bool {b : Bool} : Closed (.bool b) = True := eq_true (.bool _)
theorem cl_list {f : Bool} {xs : List AV} : Closed (.list f xs) = ClE xs := propext ⟨fun h => by cases h; assumption, .list _ _⟩
theorem cl_tup {xs : List AV} : Closed (.tup xs) = AllCl xs := propext ⟨fun h => by
  cases h with
  | tup _ h =>
    induction xs with
    | nil => trivial
    | cons x xs ih => exact ⟨h x List.mem_cons_self, ih fun c hc => h c (List.mem_cons_of_mem _ hc)⟩, fun h => .tup _ (allCl_iff h)⟩
theorem cl_encF {f : Fm} : Closed (encF f) = True := eq_true (closedF f)
theorem clE_encFs {l : List Fm} : ClE (encFs l) = True := eq_true (closedFs l)
theorem clE_map {A : Type} {f : A → AV} (hf : ∀ a, Closed (f a)) (l : List A) : ClE (l.map f) := fun x hx c hc => by
  obtain ⟨a, _, rfl⟩ := List.mem_map.1 hx
  have h := hf a
  generalize hv : f a = v at *
  cases v with
  | agg cs => cases h with | agg _ h => exact h c hc
  | _ => simp only [AV.cells, List.mem_singleton] at hc; subst hc; exact h
theorem ClE.bel {m : Nat} {l : List AV} (h : ClE l) : BelE m l := fun x hx c hc => (h x hx c hc).bel
theorem cl_encC {c : Ct} : Closed (encC c) = True := eq_true (closedC c)
theorem bel_encC {m : Nat} (c : Ct) : Bel m (encC c) = True := eq_true (closedC c).bel
attribute [go_sem] bel_encC
theorem pcallX {C : Cx} {f : FuncId} {args : List AV} {r : AV} (h : CallX C f args .none r .none) (hcl : AllCl args) (hclr : Closed r) : PCall C f args r := pcall_x h (allCl_iff hcl) hclr
def FnX (C : Cx) (g : FuncId) (caps : List AV) (σ0 : Sto) (args : List AV) (r : AV) : Prop := ∀ σ, Sub σ0 σ → CallX C g (args ++ caps) σ r σ
theorem FnX.here {C : Cx} {g : FuncId} {caps : List AV} {σ0 : Sto} {args : List AV} {r : AV} (h : FnX C g caps σ0 args r) : ∃ fn c, Body C.P g fn c := (h σ0 (.refl _)).here
theorem callK_f {C : Cx} {nt : Nat} {d : Option Nat} {cl : Call} {rs : List RO} {K : Env → Sto → Prop} {env : Env} {σ0 σ : Sto} {f : Operand} {g : FuncId} {caps args : List AV} {r : AV} (h : FnX C g caps σ0 args r) (hs : Sub σ0 σ)
    (hc : cl.callee = .value f) (hf : ev C nt env f = .fn g caps) (ha : leL (cl.args.toList.map (ev C nt env)) args) (hk : wpr C nt rs K (putA env d r) σ) : callK C nt d cl rs K env σ :=
  callK_x (h σ hs) hc hf ha hk
theorem callD_x {C : Cx} {nt : Nat} {d : Option Nat} {cl : Call} {rs : List (RO × DF)} {hist : List Sto} {ob : Obl} {K : Env → Sto → Prop} {env : Env} {σ σ1 : Sto} {f : Operand} {g : FuncId} {caps args : List AV} {r : AV}
    (h : CallX C g (args ++ caps) σ r σ1) (hc : cl.callee = .value f) (hf : ev C nt env f = .fn g caps) (ha : leL (cl.args.toList.map (ev C nt env)) args)
    (hk : oblOK σ1 ob ∧ wpD C nt K rs (σ :: hist) (oblDec ob) (putA env d r) σ1) : callD C nt d cl rs hist ob K env σ := by
  obtain ⟨⟨fn, c, hb⟩, h⟩ := h
  exact callR_gen hb (h.le (leL.append ha (leL.refl caps)) (.refl r)) hc hf rfl hk
theorem qcall_of {C : Cx} {ρ : Operand → AV} {cl : Call} {σ : Sto} {f : Operand} {g : FuncId} {caps args : List AV} {r : AV} (h : CallX C g (args ++ caps) σ r σ) (hc : cl.callee = .value f) (hf : ρ f = .fn g caps) (ha : leL (cl.args.toList.map ρ) args) : qcall C ρ (.call cl) r σ := by
  obtain ⟨⟨fn, c, hb⟩, h⟩ := h
  intro o ho
  exact opStep_call (f := f) (as := cl.args) (ts := cl.argTypes) (by rw [ho, ← hc]) hf hb (h.le (leL.append ha (leL.refl caps)) (.refl r))
theorem qcall_of0 {C : Cx} {ρ : Operand → AV} {cl : Call} {σ : Sto} {f : Operand} {g : FuncId} {args : List AV} {r : AV} (h : CallX C g args σ r σ) (hc : cl.callee = .value f) (hf : ρ f = .fn g []) (ha : leL (cl.args.toList.map ρ) args) : qcall C ρ (.call cl) r σ :=
  qcall_of (caps := []) (by rw [List.append_nil]; exact h) hc hf ha
theorem callD_q0 {C : Cx} {nt : Nat} {d : Option Nat} {cl : Call} {bk fw : Nat} {rs : List (RO × DF)} {hist : List Sto} {ob : Obl} {K : Env → Sto → Prop} {env : Env} {σ : Sto} {f : Operand} {g : FuncId} {args : List AV} {r : AV} (h : CallX C g args σ r σ)
    (hc : cl.callee = .value f) (hf : ev C nt env f = .fn g []) (ha : leL (cl.args.toList.map (ev C nt env)) args)
    (hk : allS (qcall C (ev C nt env) (.call cl) r) (hist.take bk) ∧ wpD C nt K rs hist (if fw = 0 then ob else (fw, qcall C (ev C nt env) (.call cl) r) :: ob) (putA env d r) σ) : qcallD C nt d cl bk fw rs hist ob K env σ :=
  ⟨r, qcall_of0 h hc hf ha, hk⟩
theorem callD_x0 {C : Cx} {nt : Nat} {d : Option Nat} {cl : Call} {rs : List (RO × DF)} {hist : List Sto} {ob : Obl} {K : Env → Sto → Prop} {env : Env} {σ σ1 : Sto} {f : Operand} {g : FuncId} {args : List AV} {r : AV}
    (h : CallX C g args σ r σ1) (hc : cl.callee = .value f) (hf : ev C nt env f = .fn g []) (ha : leL (cl.args.toList.map (ev C nt env)) args)
    (hk : oblOK σ1 ob ∧ wpD C nt K rs (σ :: hist) (oblDec ob) (putA env d r) σ1) : callD C nt d cl rs hist ob K env σ :=
  callD_x (caps := []) (by rw [List.append_nil]; exact h) hc hf ha hk
section
variable {C : Cx} {ro : Option Nat} {nt : Nat} {Q : Exit → Env → Sto → Prop} {env : Env} {σ : Sto}
theorem WK.blockSeq {id : Nat} {a b : K} (h : WK C ro nt (.seq a b) (fun e => Q (inBlk id e)) env σ) : WK C ro nt (.block id (.seq a b)) Q env σ := WK.block h
theorem WK.blockCond {id : Nat} {c : Operand} {a b : K} (h : WK C ro nt (.cond c a b) (fun e => Q (inBlk id e)) env σ) : WK C ro nt (.block id (.cond c a b)) Q env σ := WK.block h
theorem WK.blockReg {id : Nat} {r : List RO} (h : WK C ro nt (.reg r) (fun e => Q (inBlk id e)) env σ) : WK C ro nt (.block id (.reg r)) Q env σ := WK.block h
theorem WK.condT {c : Operand} {x y : K} (hc : ev C nt env c = .bool true) (h : WK C ro nt x Q env σ) : WK C ro nt (.cond c x y) Q env σ := WK.cond true hc (fun _ => h) (fun h => by cases h)
theorem WK.condF {c : Operand} {x y : K} (hc : ev C nt env c = .bool false) (h : WK C ro nt y Q env σ) : WK C ro nt (.cond c x y) Q env σ := WK.cond false hc (fun h => by cases h) (fun _ => h)
end
theorem WK.lessBox {C : Cx} {ro : Option Nat} {nt : Nat} {k : K} {Q : Exit → Env → Sto → Prop} {env : Env} {σ : Sto} (id : Nat) {cs : List AV} (ds : List AV) (hs : σ.get id = some (.box cs)) (hle : leL cs ds)
    (h : WK C ro nt k Q env (σ.set id (.box ds))) : WK C ro nt k Q env σ :=
  WK.less (σ1 := σ.set id (.box ds)) (fun t => .refl _) ⟨rfl, fun i o hi => by
    have hi : (if i = id then some (AObj.box ds) else σ.get i) = some o := hi
    split at hi
    · rename_i e; cases hi; exact .inr ⟨cs, ds, by rw [e]; exact hs, rfl, hle⟩
    · exact .inl hi⟩ h
theorem le_own' (id : Nat) (xs : List AV) : (AV.own id xs).le (.list false xs) = True := eq_true (le_own id xs)
theorem belE_mapB {A : Type} {m : Nat} (f : A → Bool) (l : List A) : BelE m (l.map fun a => AV.bool (f a)) = True := eq_true (belE_map (fun _ => .bool _) l)
theorem belE_mapI {A : Type} {m : Nat} (k : IntKind) (f : A → Int) (l : List A) : BelE m (l.map fun a => AV.int k (f a)) = True := eq_true (belE_map (fun _ => .int _ _) l)
theorem belE_repl {m n : Nat} {x : AV} (h : BelL m x.cells) : BelE m (List.replicate n x) := fun y hy => by
  rw [List.eq_of_mem_replicate hy]; exact belL_iff.1 h
theorem belE_replB {m n : Nat} {b : Bool} : BelE m (List.replicate n (AV.bool b)) = True := eq_true (belE_repl ⟨.bool _, trivial⟩)
theorem belE_replI {m n : Nat} {k : IntKind} {b : Int} : BelE m (List.replicate n (AV.int k b)) = True := eq_true (belE_repl ⟨.int _ _, trivial⟩)
attribute [go_sem] belE_mapB belE_mapI belE_replB belE_replI
theorem le_listf (f : Bool) (xs : List AV) : (AV.list f xs).le (.list false xs) = True := eq_true (AV.le_list' xs)
attribute [go_sem] le_own' le_listf
theorem one_list {f : Bool} {xs : List AV} : (AV.list f xs).one = true := (rfl)
theorem one_int {k : IntKind} {n : Int} : (AV.int k n).one = true := (rfl)
theorem one_bool {n : Bool} : (AV.bool n).one = true := (rfl)
theorem one_own {f : Nat} {xs : List AV} : (AV.own f xs).one = true := (rfl)
theorem one_str {s : ByteArray} : (AV.str s).one = true := (rfl)
theorem one_ptr {a b : Nat} : (AV.ptr a b).one = true := (rfl)
attribute [go_sem] one_list one_int one_bool one_own one_str one_ptr List.all_cons List.all_nil List.length_cons List.length_nil Bool.and_true Bool.true_and
end Go.Lg
set_option maxRecDepth 100000
namespace Go.Lg
open Go
theorem frz1_bel {m id : Nat} {es : List AV} {a : AV} (h : Bel m a) (hm : m ≤ id) : frz1 id es a = a := by
  cases h with
  | row i off len hi => show (if i = id then _ else _) = _; rw [if_neg (by omega)]
  | _ => rfl
structure BSto (σ : Sto) : Prop where
  lt : ∀ i o, σ.get i = some o → i < σ.next
  bel : ∀ i cs, σ.get i = some (.box cs) → ∀ c ∈ cs, Bel σ.next c
theorem BSto.none : BSto Sto.none := ⟨fun i o h => absurd (show (Option.none : Option AObj) = some o from h) (fun e => by cases e), fun i cs h => absurd (show (Option.none : Option AObj) = some _ from h) (fun e => by cases e)⟩
theorem BSto.add {σ : Sto} {o : AObj} (h : BSto σ) (ho : BelO (σ.next + 1) o) : BSto (σ.add o) := by
  refine ⟨fun i o' hi => ?_, fun i cs hi c hc => ?_⟩
  · rw [Sto.get_add] at hi
    split at hi
    · rename_i e; rw [e, Sto.next_add]; exact Nat.lt_succ_self _
    · have := h.lt i o' hi
      rw [Sto.next_add]; omega
  · rw [Sto.get_add] at hi
    rw [Sto.next_add]
    split at hi
    · cases hi; exact ho c hc
    · exact (h.bel i cs hi c hc).up (Nat.le_succ _)
theorem cut_none (σ' : Sto) : Cut Sto.none σ' Sto.none := ⟨Nat.le_refl _, Nat.zero_le _, fun i hi => .inl rfl, fun i o hi => absurd hi (Nat.not_lt_zero i)⟩
theorem frz1_bel' {m id : Nat} {es : List AV} {a : AV} (h : Bel m a) (he : BelE m es) : Bel m (frz1 id es a) := by
  cases h with
  | row i off len hi =>
    show Bel m (if i = id then _ else _)
    split
    · split
      · exact .list _ _ fun x hx => he x (List.mem_of_mem_drop (List.mem_of_mem_take hx))
      · exact .undef
    · exact .row i off len hi
  | undef => exact .undef
  | bool b => exact .bool b
  | int k n => exact .int k n
  | str s => exact .str s
  | list f xs h => exact .list f xs h
  | own i xs h1 h2 => exact .own i xs h1 h2
  | ptr i k h => exact .ptr i k h
  | rptr i j k h => exact .rptr i j k h
  | eptr cs k h => exact .eptr cs k h
  | nilp => exact .nilp
  | agg cs h => exact .agg cs h
  | tup cs h => exact .tup cs h
  | fn f cs h => exact .fn f cs h
  | yld l h => exact .yld l h
  | nilf => exact .nilf
  | map i h => exact .map i h
  | nilm => exact .nilm
  | iface t v h => exact .iface t v h
  | nili => exact .nili
theorem BSto.frz {σ : Sto} {id : Nat} {es : List AV} (h : BSto σ) (he : BelE σ.next es) : BSto (σ.frz id es) := by
  refine ⟨fun i o hi => ?_, fun i cs hi c hc => ?_⟩
  · rw [Sto.get_frz] at hi
    rw [Sto.next_frz]
    split at hi
    · cases hi
    · cases hg : σ.get i with
      | none => rw [hg] at hi; cases hi
      | some o' => exact h.lt i o' hg
  · rw [Sto.get_frz] at hi
    rw [Sto.next_frz]
    split at hi
    · cases hi
    · cases hg : σ.get i with
      | none => rw [hg] at hi; cases hi
      | some o' =>
        rw [hg] at hi
        cases o' with
        | box ds =>
          cases hi
          obtain ⟨d, hd, rfl⟩ := List.mem_map.1 hc
          exact frz1_bel' (h.bel i ds hg d hd) he
        | _ => cases hi
end Go.Lg
/- Lg, part X: regions that draw their order, in which allocations float: a block that was made early is kept aside and taken in when its turn has come. -/
namespace Go.Lg
open Go.RowKit
theorem Inv.adopt {gl : Nat → List AV} {w0 w : World} {G : Gh} {σ : Sto} (h : Inv gl w0 G σ w) {b : Nat} {vs : Array Value} {ty : TypeId} {cells : List AV} (hb0 : w0.heap.size ≤ b) (hb : w.heap[b]? = some (.cells vs ty (0, 0)))
    (hI : ∀ k, G.I b k = none) (hn : ¬ Own G σ b) (hsz : vs.size = cells.length) (hc : ∀ (i : Nat) (c : AV), cells[i]? = some c → ∃ v : Value, vs[i]? = some v ∧ Rep G c v) :
    Inv gl w0 (G.new σ.next ⟨b, 0, cells.length, 0⟩) (σ.add (.box cells)) w := by
  have hle := Gh.le_new (G := G) (id := σ.next) ⟨b, 0, cells.length, 0⟩ (h.fresh _ (Nat.le_refl _))
  exact {
    below := h.below
    imm := h.imm
    gl := fun g k c hc => (h.gl g k c hc).imp fun v hv => ⟨hv.1, hv.2.mono hle⟩
    live := fun i o' hi => by
      simp only [Sto.get_add, Sto.next_add] at hi ⊢
      split at hi
      · omega
      · exact Nat.lt_succ_of_lt (h.live i o' hi)
    obj := fun i o' B' h1 h2 => by
      simp only [Gh.new, Sto.get_add] at h1 h2
      by_cases e : i = σ.next
      · rw [if_pos e] at h1 h2
        cases h1; cases h2
        exact ⟨hb0, vs, ty, hb, hsz, fun j c hj => by
          obtain ⟨v, hv, hr⟩ := hc j c hj
          exact ⟨v, hv, hr.mono hle⟩, fun k => hI k⟩
      · rw [if_neg e] at h1 h2
        exact ⟨(h.obj i o' B' h1 h2).1, (h.obj i o' B' h1 h2).2.keep hle rfl fun _ => rfl⟩
    fresh := fun i hi => by
      simp only [Gh.new, Sto.next_add] at hi ⊢
      rw [if_neg (by omega)]; exact h.fresh i (by omega)
    inj := fun i i' o1 o2 B1 B2 h1 h2 h3 h4 hbb => by
      simp only [Gh.new, Sto.get_add] at h1 h2 h3 h4
      by_cases e : i = σ.next <;> by_cases e' : i' = σ.next
      · rw [e, e']
      · rw [if_pos e] at h3
        rw [if_neg e'] at h2 h4
        cases h3
        exact absurd (.inl ⟨i', o2, B2, h2, h4, hbb.symm⟩) hn
      · rw [if_pos e'] at h4
        rw [if_neg e] at h1 h3
        cases h4
        exact absurd (.inl ⟨i, o1, B1, h1, h3, hbb⟩) hn
      · rw [if_neg e] at h1 h3
        rw [if_neg e'] at h2 h4
        exact h.inj i i' o1 o2 B1 B2 h1 h2 h3 h4 hbb
    has := fun i o1 h1 hn => by
      simp only [Gh.new, Sto.get_add] at h1 ⊢
      by_cases e : i = σ.next
      · rw [if_pos e]; exact ⟨_, rfl⟩
      · rw [if_neg e] at h1 ⊢; exact h.has i o1 h1 hn
    freshT := fun i hi => h.freshT i (by simp only [Sto.next_add] at hi; omega)
    tok := h.tok.step rfl (fun i es n hi => by
        simp only [Sto.get_add] at hi
        split at hi
        · cases hi
        · exact hi) (fun _ _ _ => ⟨rfl, fun _ => rfl⟩) (fun i b' hb' i' o1 B1 h1 h2 => by
        simp only [Gh.new, Sto.get_add] at h1 h2
        by_cases e : i' = σ.next
        · rw [if_pos e] at h2; cases h2
          rintro rfl
          exact hn (.inr ⟨i, hb'⟩)
        · rw [if_neg e] at h1 h2; exact h.tok.oj i b' hb' i' o1 B1 h1 h2) }
theorem Own.adopt {G : Gh} {σ : Sto} {b b' : Nat} {cells : List AV} {n : Nat} (hT : ∀ i, σ.next ≤ i → G.T i = none) (hn : ¬ Own G σ b') (hne : b' ≠ b) : ¬ Own (G.new σ.next ⟨b, 0, n, 0⟩) (σ.add (.box cells)) b' := by
  rintro (⟨i, o', B', h1, h2, h3⟩ | ⟨i, es, m, T, o', h1, h2, h3⟩)
  · simp only [Gh.new, Sto.get_add] at h1 h2
    by_cases e : i = σ.next
    · rw [if_pos e] at h2; cases h2; exact hne h3.symm
    · rw [if_neg e] at h1 h2; exact hn (.inl ⟨i, o', B', h1, h2, h3⟩)
  · simp only [Sto.get_add] at h1
    split at h1
    · cases h1
    · exact hn (.inr ⟨i, es, m, T, o', h1, h2, h3⟩)
theorem Ext.adopt {gl : Nat → List AV} {w0 ws w : World} {G0 G : Gh} {σ0 σ : Sto} (h : Inv gl w0 G σ w) (hx : Ext G0 σ0 ws G σ w) {b : Nat} {cells : List AV} (n : Nat) (hb : ws.heap.size ≤ b) :
    Ext G0 σ0 ws (G.new σ.next ⟨b, 0, n, 0⟩) (σ.add (.box cells)) w where
  le := hx.le.trans (Gh.le_new _ (h.fresh _ (Nat.le_refl _)))
  size := hx.size
  keep := fun b' hb' ho => by
    obtain ⟨k1, k2, k3⟩ := hx.keep b' hb' ho
    exact ⟨k1, k2, Own.adopt h.freshT k3 (by omega)⟩
  next := by have := hx.next; simp only [Sto.next_add]; omega
theorem getV_set_ne {xs : Array Value} {i j : Nat} {v u : Value} (h : i ≠ j) : (xs.setIfInBounds i v).getD j u = xs.getD j u := by
  simp [Array.getD_eq_getD_getElem?, Array.getElem?_setIfInBounds_ne h]
def isFl (ops : Array Oper) (i : Nat) : Bool := match ops[i]? with | some o => o.guard.isNone && (match o.op with | .alloc _ => true | _ => false) && o.dst.isSome | none => false
def chk1F (ops : Array Oper) (fl : List DF) (B : List Nat) (j : Nat) (o : Oper) (i : Nat) : Bool :=
  (!isB B j i || (decide (i < j) && o.after.toList.any fun e => Region.binds .any e && (e.on == i || isB B e.on i))) &&
  ((namesT ops o).all fun t => dstOf ops i != some t || i == j || (decide (i < j) && isB B j i) || (decide (j < i) && isB B i j)) &&
  (!(flAt fl i).mv || !decide (i < j) || (if (flAt fl j).mv then isFl ops j || isB B j i else pureOp o.op || isB B j i || decide (rank fl j ≤ rank fl i + (flAt fl j).bk))) &&
  (!(flAt fl i).mv || !decide (j < i) || (flAt fl j).mv || pureOp o.op || isB B i j || decide (rank fl i < rank fl j + (flAt fl j).fw)) &&
  (!isFl ops i || !isB B j i || (List.range i).all fun k => !(flAt fl k).mv || isB B j k) &&
  (!isFl ops j || (flAt fl j).mv)
def chkF (ops : Array Oper) (fl : List DF) (B : List Nat) : Bool :=
  fl.length == ops.size && (List.range ops.size).all fun j => match ops[j]? with
    | none => false
    | some o => (o.after.toList.all fun e => !Region.binds .any e || decide (e.on < j)) && (List.range ops.size).all fun i => chk1F ops fl B j o i
section
variable {ops : Array Oper} {fl : List DF} {B : List Nat}
structure ChkF (ops : Array Oper) (fl : List DF) (B : List Nat) : Prop where
  at' : ∀ {j : Nat} {o : Oper}, ops[j]? = some o → ∀ e ∈ o.after, Region.binds .any e = true → e.on < j
  b : ∀ {j i : Nat} {o : Oper}, ops[j]? = some o → i < ops.size → isB B j i = true → i < j ∧ ∃ e ∈ o.after, Region.binds .any e = true ∧ (e.on = i ∨ isB B e.on i = true)
  n : ∀ {j i : Nat} {o : Oper} {t : Tmp}, ops[j]? = some o → i < ops.size → t ∈ namesT ops o → dstOf ops i = some t → i = j ∨ (i < j ∧ isB B j i = true) ∨ (j < i ∧ isB B i j = true)
  m : ∀ {j i : Nat} {o : Oper}, ops[j]? = some o → i < ops.size → i < j → (flAt fl i).mv = true → if (flAt fl j).mv = true then isFl ops j = true ∨ isB B j i = true else pureOp o.op = true ∨ isB B j i = true ∨ rank fl j ≤ rank fl i + (flAt fl j).bk
  f : ∀ {j i : Nat} {o : Oper}, ops[j]? = some o → i < ops.size → j < i → (flAt fl i).mv = true → (flAt fl j).mv = false → pureOp o.op = true ∨ isB B i j = true ∨ rank fl i < rank fl j + (flAt fl j).fw
  a : ∀ {j i : Nat} {o : Oper}, ops[j]? = some o → i < ops.size → isFl ops i = true → isB B j i = true → ∀ k < i, (flAt fl k).mv = true → isB B j k = true
  v : ∀ {j : Nat} {o : Oper}, ops[j]? = some o → isFl ops j = true → (flAt fl j).mv = true
theorem chkF_of (h : chkF ops fl B = true) : ChkF ops fl B := by
  have at0 : ∀ {j : Nat} {o : Oper}, ops[j]? = some o → (∀ e ∈ o.after, Region.binds .any e = true → e.on < j) ∧ ∀ i, i < ops.size → chk1F ops fl B j o i = true := by
    intro j o ho
    simp only [chkF, Bool.and_eq_true, List.all_eq_true, List.mem_range] at h
    have hj : j < ops.size := (Array.getElem?_eq_some_iff.1 ho).1
    have h2 := h.2 j hj
    rw [ho] at h2
    simp only [Bool.and_eq_true, List.all_eq_true, List.mem_range, Bool.or_eq_true, Bool.not_eq_true', decide_eq_true_eq] at h2
    refine ⟨fun e he hb => ?_, h2.2⟩
    rcases h2.1 e (Array.mem_toList_iff.2 he) with h3 | h3
    · rw [hb] at h3; cases h3
    · exact h3
  refine ⟨fun ho => (at0 ho).1, ?_, ?_, ?_, ?_, ?_, ?_⟩
  · intro j i o ho hi hb
    have h1 := (at0 ho).2 i hi
    simp only [chk1F, Bool.and_eq_true, Bool.or_eq_true, hb, Bool.not_true, Bool.false_eq_true, false_or, decide_eq_true_eq, List.any_eq_true, beq_iff_eq] at h1
    obtain ⟨⟨⟨⟨⟨⟨h1, e, he, hbd, h2⟩, _⟩, _⟩, _⟩, _⟩, _⟩ := h1
    exact ⟨h1, e, Array.mem_toList_iff.1 he, hbd, h2⟩
  · intro j i o t ho hi ht hd
    have h1 := (at0 ho).2 i hi
    simp only [chk1F, Bool.and_eq_true, List.all_eq_true] at h1
    have h2 := h1.1.1.1.1.2 t ht
    simp only [hd, Bool.or_eq_true, bne_self_eq_false, Bool.false_eq_true, false_or, beq_iff_eq, Bool.and_eq_true, decide_eq_true_eq] at h2
    rcases h2 with (h2 | h2) | h2
    · exact .inl h2
    · exact .inr (.inl h2)
    · exact .inr (.inr h2)
  · intro j i o ho hi hij hm
    have h1 := (at0 ho).2 i hi
    simp only [chk1F, Bool.and_eq_true, Bool.or_eq_true, hm, hij, Bool.not_true, Bool.false_eq_true, false_or, decide_true] at h1
    have h2 := h1.1.1.1.2
    split
    · rename_i e; rw [if_pos e] at h2; simpa using h2
    · rename_i e; rw [if_neg e] at h2
      simp only [Bool.or_eq_true, decide_eq_true_eq] at h2
      rcases h2 with (h2 | h2) | h2
      · exact .inl h2
      · exact .inr (.inl h2)
      · exact .inr (.inr h2)
  · intro j i o ho hi hij hm hj
    have h1 := (at0 ho).2 i hi
    simp only [chk1F, Bool.and_eq_true, Bool.or_eq_true, hm, hj, hij, Bool.not_true, Bool.false_eq_true, false_or, decide_true, decide_eq_true_eq] at h1
    rcases h1.1.1.2 with (h2 | h2) | h2
    · exact .inl h2
    · exact .inr (.inl h2)
    · exact .inr (.inr h2)
  · intro j i o ho hi hfl hb k hk hm
    have h1 := (at0 ho).2 i hi
    simp only [chk1F, Bool.and_eq_true, Bool.or_eq_true, hfl, hb, Bool.not_true, Bool.false_eq_true, false_or, List.all_eq_true, List.mem_range] at h1
    have := h1.1.2 k hk
    simpa [hm] using this
  · intro j o ho hfl
    have hj : j < ops.size := (Array.getElem?_eq_some_iff.1 ho).1
    have h1 := (at0 ho).2 j hj
    simp only [chk1F, Bool.and_eq_true, Bool.or_eq_true, hfl, Bool.not_true, Bool.false_eq_true, false_or] at h1
    exact h1.2
def Adp (ops : Array Oper) (fl : List DF) (listed : Array Bool) (m : Nat) (i : Nat) : Prop := if isFl ops i = true then rank fl i < m else listed.getD i false = true
def Asd (ops : Array Oper) (fl : List DF) (listed : Array Bool) (m : Nat) (i : Nat) : Prop := i < ops.size ∧ isFl ops i = true ∧ listed.getD i false = true ∧ ¬ rank fl i < m
def EnvT (ops : Array Oper) (val : Nat → AV) (env0 : Env) (L : Nat → Prop) (env : Env) (t : Tmp) : Prop :=
  (∀ i, i < ops.size → L i → dstOf ops i = some t → (∀ j, j < ops.size → L j → dstOf ops j = some t → j ≤ i) → env t = val i) ∧ ((∀ i, i < ops.size → L i → dstOf ops i ≠ some t) → env t = env0 t)
theorem EnvT.agree {val : Nat → AV} {env0 env env' : Env} {L L' : Nat → Prop} {t : Tmp} (h : EnvT ops val env0 L env t) (h' : EnvT ops val env0 L' env' t) (hl : ∀ i, i < ops.size → dstOf ops i = some t → (L i ↔ L' i)) : env t = env' t := by
  by_cases hex : ∃ i, i < ops.size ∧ (L i ∧ dstOf ops i = some t)
  · obtain ⟨i, hi, ⟨h1, h2⟩, h3⟩ := max_of hex
    rw [h.1 i hi h1 h2 (fun j hj hL hd => h3 j hj ⟨hL, hd⟩)]
    exact (h'.1 i hi ((hl i hi h2).1 h1) h2 (fun j hj hL hd => h3 j hj ⟨(hl j hj hd).2 hL, hd⟩)).symm
  · rw [h.2 (fun i hi hL hd => hex ⟨i, hi, hL, hd⟩), h'.2 (fun i hi hL hd => hex ⟨i, hi, (hl i hi hd).2 hL, hd⟩)]
structure LSP (ops : Array Oper) (fl : List DF) (B : List Nat) (val : Nat → AV) (env0 : Env) (listed : Array Bool) (m : Nat) (env : Env) : Prop where
  size : listed.size = ops.size
  cl : ∀ j i, j < ops.size → i < ops.size → listed.getD j false = true → isB B j i = true → listed.getD i false = true
  mv : ∀ i, i < ops.size → (flAt fl i).mv = true → isFl ops i = false → (listed.getD i false = true ↔ rank fl i < m)
  al : ∀ i, i < ops.size → isFl ops i = true → rank fl i < m → listed.getD i false = true
  ad : ∀ j i, j < ops.size → i < ops.size → isFl ops i = true → isFl ops j = false → isB B j i = true → listed.getD j false = true → rank fl i < m
  le : m ≤ rank fl ops.size
  env : ∀ t, (∀ i, Asd ops fl listed m i → dstOf ops i ≠ some t) → EnvT ops val env0 (Adp ops fl listed m) env t
def AsdAt (C : Cx) (ops : Array Oper) (w0 ws : World) (G : Gh) (σ : Sto) (a : Act) (w : World) (i b : Nat) : Prop :=
  ∃ d t o ti, ops[i]? = some o ∧ o.dst = some d ∧ o.op = .alloc t ∧ C.ty t = some ti ∧ a.tmps.getD d undef = .pointer (some ⟨b, 0, none⟩) ∧ w0.heap.size ≤ b ∧ ws.heap.size ≤ b ∧ w.heap[b]? = some (.cells ti.zero.cells t (0, 0)) ∧ (∀ k, G.I b k = none) ∧ ¬ Own G σ b
def AsdAll (C : Cx) (ops : Array Oper) (fl : List DF) (listed : Array Bool) (m : Nat) (w0 ws : World) (G : Gh) (σ : Sto) (a : Act) (w : World) : Prop :=
  ∃ bl : Nat → Nat, (∀ i, Asd ops fl listed m i → AsdAt C ops w0 ws G σ a w i (bl i)) ∧ ∀ i j, Asd ops fl listed m i → Asd ops fl listed m j → bl i = bl j → i = j
theorem isFl_of {i : Nat} (h : isFl ops i = true) : ∃ o d t, ops[i]? = some o ∧ o.dst = some d ∧ o.op = .alloc t ∧ o.guard = none ∧ i < ops.size := by
  unfold isFl at h
  cases ho : ops[i]? with
  | none => rw [ho] at h; cases h
  | some o =>
    rw [ho] at h
    simp only [Bool.and_eq_true, Option.isNone_iff_eq_none, Option.isSome_iff_exists] at h
    obtain ⟨⟨h1, h2⟩, d, h3⟩ := h
    split at h2
    · rename_i t ht
      exact ⟨o, d, t, rfl, h3, ht, h1, (Array.getElem?_eq_some_iff.1 ho).1⟩
    · cases h2
theorem of_rank (hlen : fl.length = ops.size) {m k : Nat} (hk : k ≤ ops.size) (h : m < rank fl k) : ∃ i, i < k ∧ (flAt fl i).mv = true ∧ rank fl i = m := by
  induction k with
  | zero => simp [rank] at h
  | succ k ih =>
    have hs := rank_succ (fl := fl) k (by omega)
    by_cases hmv : (flAt fl k).mv = true
    · rw [if_pos hmv] at hs
      by_cases e : rank fl k = m
      · exact ⟨k, by omega, hmv, e⟩
      · obtain ⟨i, h1, h2⟩ := ih (by omega) (by omega)
        exact ⟨i, by omega, h2⟩
    · rw [if_neg hmv] at hs
      obtain ⟨i, h1, h2⟩ := ih (by omega) (by omega)
      exact ⟨i, by omega, h2⟩
theorem rank_inj (hlen : fl.length = ops.size) {i j : Nat} (hi : i < ops.size) (hj : j < ops.size) (h1 : (flAt fl i).mv = true) (h2 : (flAt fl j).mv = true) (h : rank fl i = rank fl j) : i = j := by
  rcases Nat.lt_trichotomy i j with h' | h' | h'
  · have := rank_lt (fl := fl) h' (by omega) h1; omega
  · exact h'
  · have := rank_lt (fl := fl) h' (by omega) h2; omega
variable {C : Cx} {nt : Nat} {val : Nat → AV} {st : Nat → Sto} {env0 : Env}
theorem adopt_all (hF : ChkF ops fl B) (hlen : fl.length = ops.size) (good : ∀ i o, ops[i]? = some o → Good C nt ops fl val st env0 i o) {w0 ws : World} {G0 : Gh} {σ0 : Sto} {listed : Array Bool} {a : Act} {w : World} : ∀ (k m : Nat) (env : Env) (G : Gh), rank fl ops.size - m ≤ k → LSP ops fl B val env0 listed m env → AsdAll C ops fl listed m w0 ws G (st m) a w →
    Rel C w0 G nt env (st m) a w → Ext G0 σ0 ws G (st m) w →
    ∃ m' env' G', LSP ops fl B val env0 listed m' env' ∧ (∀ i, Asd ops fl listed m' i → rank fl i ≠ m') ∧ AsdAll C ops fl listed m' w0 ws G' (st m') a w ∧ Rel C w0 G' nt env' (st m') a w ∧ Ext G0 σ0 ws G' (st m') w := by
  intro k
  induction k with
  | zero =>
    intro m env G hk hl ha hr hx
    refine ⟨m, env, G, hl, fun i hi e => ?_, ha, hr, hx⟩
    obtain ⟨h1, h2, h3, h4⟩ := hi
    obtain ⟨o, d, t, ho, _⟩ := isFl_of h2
    have := rank_lt (fl := fl) h1 (by omega) (hF.v ho h2)
    have := hl.le
    omega
  | succ k ih =>
    intro m env G hk hl ha hr hx
    by_cases hex : ∃ i, Asd ops fl listed m i ∧ rank fl i = m
    · obtain ⟨i, hi, hrk⟩ := hex
      obtain ⟨bl, hb1, hb2⟩ := ha
      obtain ⟨d, t, o, ti, ho, hd, hop, hty, htm, hw0, hws, hhp, hI, hnO⟩ := hb1 i hi
      obtain ⟨h1, h2, h3, h4⟩ := hi
      obtain ⟨o', d', t', ho', _, _, hgd, _⟩ := isFl_of h2
      rw [ho] at ho'; cases ho'
      have hmv := hF.v ho h2
      have hg := good i o ho
      have hgo : goesA (guardA nt ops (envAt ops val env0 i) o) = true := by simp [guardA, hgd, goesA]
      obtain ⟨g1, g2, g3⟩ := hg.ao hgo hmv (by rw [hop]; rfl)
      have haop : aop C (ev C nt (envAt ops val env0 i)) (st (rank fl i)) o.op = allocA (st (rank fl i)) (C.ty t) := by rw [hop]; rfl
      rw [haop, hty] at g1 g2 g3
      simp only [allocA] at g1 g2 g3
      rw [hrk] at g2 g3
      have hlt := rank_lt (fl := fl) h1 (by omega) hmv
      obtain ⟨c1, c2⟩ := (rep_ofV G ti.zero).cells g1
      have hinv := hr.inv.adopt hw0 hhp hI hnO c1 c2
      have hle := Gh.le_new (G := G) (id := (st m).next) ⟨bl i, 0, (ofV ti.zero).cells.length, 0⟩ (hr.inv.fresh _ (Nat.le_refl _))
      have hdi : dstOf ops i = some d := by simp [dstOf, ho, hd]
      have asd : ∀ j, Asd ops fl listed (m + 1) j ↔ Asd ops fl listed m j ∧ j ≠ i := fun j => by
        constructor
        · rintro ⟨k1, k2, k3, k4⟩
          refine ⟨⟨k1, k2, k3, by omega⟩, ?_⟩
          rintro rfl; omega
        · rintro ⟨⟨k1, k2, k3, k4⟩, hne⟩
          refine ⟨k1, k2, k3, fun hlt' => ?_⟩
          have : rank fl j = rank fl i := by omega
          obtain ⟨oj, _, _, hoj, _⟩ := isFl_of k2
          exact hne (rank_inj hlen k1 h1 (hF.v hoj k2) hmv this)
      have adp : ∀ j, j < ops.size → (Adp ops fl listed (m + 1) j ↔ Adp ops fl listed m j ∨ j = i) := fun j hj => by
        unfold Adp
        by_cases hfj : isFl ops j = true
        · rw [if_pos hfj, if_pos hfj]
          obtain ⟨oj, _, _, hoj, _⟩ := isFl_of hfj
          constructor
          · intro h
            by_cases e : rank fl j = m
            · exact .inr (rank_inj hlen hj h1 (hF.v hoj hfj) hmv (by omega))
            · exact .inl (by omega)
          · rintro (h | rfl) <;> omega
        · rw [if_neg hfj, if_neg hfj]
          constructor
          · exact .inl
          · rintro (h | rfl)
            · exact h
            · exact absurd h2 hfj
      have hLSP : LSP ops fl B val env0 listed (m + 1) (upd env d (val i)) := {
        size := hl.size
        cl := hl.cl
        mv := fun j hj hm hf => by
          rw [hl.mv j hj hm hf]
          constructor
          · omega
          · intro h
            by_cases e : rank fl j = m
            · have := rank_inj hlen hj h1 hm hmv (by omega)
              subst this; rw [h2] at hf; cases hf
            · omega
        al := fun j hj hf hr => by
          by_cases e : rank fl j = m
          · obtain ⟨oj, _, _, hoj, _⟩ := isFl_of hf
            have := rank_inj hlen hj h1 (hF.v hoj hf) hmv (by omega)
            subst this; exact h3
          · exact hl.al j hj hf (by omega)
        ad := fun j k hj hk h5 h6 h7 h8 => Nat.lt_succ_of_lt (hl.ad j k hj hk h5 h6 h7 h8)
        le := by omega
        env := fun u hu => by
          by_cases e : u = d
          · subst e
            have hval : upd env u (val i) u = val i := by simp [upd]
            have others : ∀ j, j < ops.size → dstOf ops j = some u → Adp ops fl listed (m + 1) j → j ≤ i := fun j hj hdj hA => by
              rcases hF.n ho hj (t := u) (by simp [namesT, hd]) hdj with rfl | ⟨q1, _⟩ | ⟨q1, q2⟩
              · exact Nat.le_refl _
              · omega
              · exfalso
                have hfj : isFl ops j = false := by
                  cases hfj : isFl ops j with
                  | false => rfl
                  | true =>
                    have hA := (adp j hj).1 hA
                    unfold Adp at hA
                    rw [if_pos hfj] at hA
                    obtain ⟨oj, _, _, hoj, _⟩ := isFl_of hfj
                    have := rank_lt (fl := fl) q1 (by omega) hmv
                    rcases hA with hA | rfl <;> omega
                unfold Adp at hA
                rw [if_neg (by rw [hfj]; decide)] at hA
                exact h4 (hl.ad j i hj h1 h2 hfj q2 hA)
            refine ⟨fun j hj hA hdj hmax => ?_, fun hno => absurd hdi (hno i h1 ((adp i h1).2 (.inr rfl)))⟩
            have e1 := others j hj hdj hA
            have e2 := hmax i h1 ((adp i h1).2 (.inr rfl)) hdi
            have : j = i := by omega
            subst this; exact hval
          · have hval : upd env d (val i) u = env u := by simp [upd, e]
            have hne : dstOf ops i ≠ some u := by rw [hdi]; intro h; cases h; exact e rfl
            obtain ⟨e1, e2⟩ := hl.env u fun j hj => by
              by_cases eji : j = i
              · subst eji; exact hne
              · exact hu j ((asd j).2 ⟨hj, eji⟩)
            rw [EnvT, hval]
            refine ⟨fun j hj hA hdj hmax => e1 j hj ?_ hdj fun k hk hAk hdk => hmax k hk ((adp k hk).2 (.inl hAk)) hdk, fun hno => e2 fun j hj hA => hno j hj ((adp j hj).2 (.inl hA))⟩
            rcases (adp j hj).1 hA with h | rfl
            · exact h
            · exact absurd hdj hne }
      refine ih (m + 1) (upd env d (val i)) (G.new (st m).next ⟨bl i, 0, (ofV ti.zero).cells.length, 0⟩) (by omega) hLSP ⟨bl, fun j hj => ?_, fun j j' hj hj' => hb2 j j' ((asd j).1 hj).1 ((asd j').1 hj').1⟩ ?_ ?_
      · obtain ⟨hj, hji⟩ := (asd j).1 hj
        obtain ⟨d', t', o', ti', q1, q2, q3, q4, q5, q6, q7, q8, q9, q10⟩ := hb1 j hj
        refine ⟨d', t', o', ti', q1, q2, q3, q4, q5, q6, q7, q8, q9, ?_⟩
        rw [g3]
        exact Own.adopt hr.inv.freshT q10 fun e => hji (hb2 j i hj ⟨h1, h2, h3, h4⟩ e)
      · rw [g3]
        refine ⟨hinv, hr.env.size, fun u hu => ?_⟩
        by_cases e : u = d
        · subst e
          rw [htm, g2]
          simp only [upd, if_true]
          exact .ptr _ _ ⟨bl i, 0, (ofV ti.zero).cells.length, 0⟩ (by simp [Gh.new])
        · simp only [upd, if_neg e]
          exact (hr.env.rep u hu).mono hle
      · rw [g3]; exact Ext.adopt hr.inv hx _ hws
    · exact ⟨m, env, G, hl, fun i hi e => hex ⟨i, hi, e⟩, ha, hr, hx⟩
theorem ready_bF (hF : ChkF ops fl B) {listed : Array Bool} (hs : listed.size = ops.size) (hcl : ∀ j i, j < ops.size → i < ops.size → listed.getD j false = true → isB B j i = true → listed.getD i false = true) {i : Nat} (hr : i ∈ Region.ready .any ops listed) :
    ∃ o, ops[i]? = some o ∧ i < ops.size ∧ listed.getD i false = false ∧ ∀ k, k < ops.size → isB B i k = true → listed.getD k false = true := by
  obtain ⟨h0, o, ho, hall⟩ := mem_ready.1 hr
  have hi : i < ops.size := (Array.getElem?_eq_some_iff.1 ho).1
  refine ⟨o, ho, hi, ?_, fun k hk hb => ?_⟩
  · have : i < listed.size := by rw [hs]; exact hi
    simpa [Array.getD_eq_getD_getElem?, this] using h0
  · obtain ⟨_, e, he, hbd, h2⟩ := hF.b ho hk hb
    have h3 := hall e he hbd
    rcases h2 with rfl | h2
    · exact h3
    · exact hcl e.on k (Nat.lt_trans (hF.at' ho e he hbd) hi) hk h3 h2
set_option maxHeartbeats 800000 in
theorem anyF {ro : Option Nat} (hF : ChkF ops fl B) (hlen : fl.length = ops.size) (good : ∀ i o, ops[i]? = some o → Good C nt ops fl val st env0 i o)
    {w0 : World} {Q : Exit → Act → World → Prop} {G0 : Gh} {σ0 : Sto} {ws : World} {df : List Deferred} (hws : w0.heap.size ≤ ws.heap.size) (hnt : ∀ i o d, isFl ops i = true → ops[i]? = some o → o.dst = some d → d < nt)
    (hQ : ∀ G a w, Rel C w0 G nt (envAt ops val env0 ops.size) (st (rank fl ops.size)) a w → Ext G0 σ0 ws G (st (rank fl ops.size)) w → a.defers = df → Q .normal a w) :
    ∀ fuel listed env m G a w, (List.range ops.size).countP (fun i => !listed.getD i false) ≤ fuel → LSP ops fl B val env0 listed m env → (∀ i, Asd ops fl listed m i → rank fl i ≠ m) → AsdAll C ops fl listed m w0 ws G (st m) a w →
      Rel C w0 G nt env (st m) a w → Ext G0 σ0 ws G (st m) w → a.defers = df → wpAnyIn (FW ro) 0 C.P .any ops Q fuel listed a w := by
  have hempty : ∀ listed env m G a w, LSP ops fl B val env0 listed m env → (∀ i, Asd ops fl listed m i → rank fl i ≠ m) → Rel C w0 G nt env (st m) a w → Ext G0 σ0 ws G (st m) w → a.defers = df → Region.ready .any ops listed = [] → Q .normal a w := by
    intro listed env m G a w hl hclo hrel hext hdf hr
    have hall : ∀ i, i < ops.size → listed.getD i false = true := by
      intro i
      induction i using Nat.strongRecOn with
      | _ i ih =>
        intro hi
        cases hli : listed.getD i false with
        | true => rfl
        | false =>
          exfalso
          have : i ∈ Region.ready .any ops listed := by
            refine mem_ready.2 ⟨?_, ops[i], Array.getElem?_eq_getElem hi, fun e he hb => ?_⟩
            · have hs : i < listed.size := by rw [hl.size]; exact hi
              simpa [Array.getD_eq_getD_getElem?, hs] using hli
            · have hlt := hF.at' (Array.getElem?_eq_getElem hi) e he hb
              exact ih e.on hlt (Nat.lt_trans hlt hi)
          rw [hr] at this; cases this
    have hm : m = rank fl ops.size := by
      rcases Nat.lt_or_ge m (rank fl ops.size) with hlt | hge
      · exfalso
        obtain ⟨i, h1, h2, h3⟩ := of_rank hlen (Nat.le_refl _) hlt
        cases hfi : isFl ops i with
        | true => exact hclo i ⟨h1, hfi, hall i h1, by omega⟩ h3
        | false => have := (hl.mv i h1 h2 hfi).1 (hall i h1); omega
      · have := hl.le; omega
    subst hm
    have hA : ∀ i, i < ops.size → Adp ops fl listed (rank fl ops.size) i := fun i hi => by
      unfold Adp
      split
      · rename_i hf
        obtain ⟨o, _, _, ho, _⟩ := isFl_of hf
        exact rank_lt hi (by omega) (hF.v ho hf)
      · exact hall i hi
    have he : env = envAt ops val env0 ops.size := by
      funext t
      refine (hl.env t fun i hi => ?_).agree (envAt_L val env0 ops.size (Nat.le_refl _) t) fun i hi _ => ⟨fun _ => hi, fun _ => hA i hi⟩
      obtain ⟨h1, h2, h3, h4⟩ := hi
      obtain ⟨o, _, _, ho, _⟩ := isFl_of h2
      exact absurd (rank_lt h1 (by omega) (hF.v ho h2)) h4
    subst he
    exact hQ G a w hrel hext hdf
  intro fuel
  induction fuel with
  | zero =>
    intro listed env m G a w hc hl hclo ha hrel hext hdf
    have hr : Region.ready .any ops listed = [] := by
      cases hr : Region.ready .any ops listed with
      | nil => rfl
      | cons i l =>
        obtain ⟨o, ho, hi, h1, _⟩ := ready_bF hF hl.size hl.cl (i := i) (by rw [hr]; simp)
        have := List.countP_eq_zero.1 (Nat.le_zero.1 hc) i (List.mem_range.2 hi)
        simp [h1] at this
    exact ⟨hr, hempty listed env m G a w hl hclo hrel hext hdf hr⟩
  | succ fuel ih =>
    intro listed env m G a w hc hl hclo ha hrel hext hdf
    refine ⟨hempty listed env m G a w hl hclo hrel hext hdf, fun i hr => ?_⟩
    obtain ⟨o, ho, hi, hun, hbef⟩ := ready_bF hF hl.size hl.cl hr
    have hgood := good i o ho
    have hlater : ∀ k, k < ops.size → isB B k i = true → listed.getD k false = false := fun k hk hb => by
      cases hL : listed.getD k false with
      | false => rfl
      | true => have := hl.cl k i hk hi hL hb; rw [hun] at this; cases this
    have notA : ∀ j, Asd ops fl listed m j → j ≠ i := fun j hj e => by subst e; have := hj.2.2.1; rw [hun] at this; cases this
    -- who has been bound ahead is done as the store sees it
    have bound : ∀ j, j < ops.size → isB B i j = true → Adp ops fl listed m j := fun j hj hb => by
      unfold Adp
      split
      · rename_i hf
        rcases Nat.lt_or_ge (rank fl j) m with h | h
        · exact h
        · exfalso
          obtain ⟨oj, _, _, hoj, _⟩ := isFl_of hf
          have hmj := hF.v hoj hf
          rcases Nat.lt_or_eq_of_le h with h | h
          · obtain ⟨k, k1, k2, k3⟩ := of_rank hlen (Nat.le_of_lt hj) h
            have hbk := hF.a ho hj hf hb k k1 k2
            have hlk := hbef k (by omega) hbk
            cases hfk : isFl ops k with
            | true => exact hclo k ⟨by omega, hfk, hlk, by omega⟩ k3
            | false => have := (hl.mv k (by omega) k2 hfk).1 hlk; omega
          · exact hclo j ⟨hj, hf, hbef j hj hb, by omega⟩ h.symm
      · exact hbef j hj hb
    have noAsd : ∀ t ∈ namesT ops o, ∀ j, Asd ops fl listed m j → dstOf ops j ≠ some t := fun t ht j hj hd => by
      obtain ⟨h1, h2, h3, h4⟩ := hj
      rcases hF.n ho h1 ht hd with rfl | ⟨_, q2⟩ | ⟨_, q2⟩
      · rw [hun] at h3; cases h3
      · have := bound j h1 q2
        unfold Adp at this; rw [if_pos h2] at this; exact h4 this
      · rw [hlater j h1 q2] at h3; cases h3
    have hag : ∀ t ∈ namesT ops o, env t = envAt ops val env0 i t := fun t ht => by
      refine (hl.env t (noAsd t ht)).agree (envAt_L val env0 i (by omega) t) fun j hj hd => ?_
      rcases hF.n ho hj ht hd with rfl | ⟨h1, h2⟩ | ⟨h1, h2⟩
      · refine ⟨fun hL => ?_, fun hL => absurd hL (Nat.lt_irrefl _)⟩
        unfold Adp at hL
        split at hL
        · rename_i hf; have := hl.al j hj hf hL; rw [hun] at this; cases this
        · rw [hun] at hL; cases hL
      · exact ⟨fun _ => h1, fun _ => bound j hj h2⟩
      · refine ⟨fun hL => ?_, fun hL => absurd hL (by omega)⟩
        have hlj := hlater j hj h2
        unfold Adp at hL
        split at hL
        · rename_i hf; have := hl.al j hj hf hL; rw [hlj] at this; cases this
        · rw [hlj] at hL; cases hL
    have hev : ∀ x ∈ o.op.operands.toList, ev C nt (envAt ops val env0 i) x = ev C nt env x := fun x hx => by
      cases x with
      | tmp t =>
        have : t ∈ namesT ops o := by
          simp only [namesT, List.mem_append]
          exact .inl (.inr (List.mem_filterMap.2 ⟨.tmp t, hx, rfl⟩))
        simp only [ev, hag t this]
      | _ => rfl
    have hgd : guardA nt ops env o = guardA nt ops (envAt ops val env0 i) o := by
      unfold guardA
      cases hg : o.guard with
      | none => rfl
      | some jw =>
        obtain ⟨j, want⟩ := jw
        simp only
        cases hd : (ops[j]?).bind (·.dst) with
        | none => rfl
        | some d =>
          have : d ∈ namesT ops o := by
            simp only [namesT, List.mem_append, hg]
            exact .inr (by simp [dstOf, hd])
          simp only [hag d this]
    have hset : ∀ k, k < ops.size → (listed.setIfInBounds i true).getD k false = if k = i then true else listed.getD k false := fun k hk => by
      by_cases e : k = i
      · subst e
        have : k < listed.size := by rw [hl.size]; exact hk
        simp [Array.getD_eq_getD_getElem?, this]
      · rw [if_neg e]; exact getD_set_ne false (Ne.symm e)
    have hcnt : (List.range ops.size).countP (fun k => !(listed.setIfInBounds i true).getD k false) ≤ fuel := by
      have : (List.range ops.size).countP (fun k => !(listed.setIfInBounds i true).getD k false) < (List.range ops.size).countP (fun k => !listed.getD k false) := by
        refine countP_lt (a := i) (fun x hx => ?_) (List.mem_range.2 hi) (by simp [hun]) (by simp [hset i hi])
        by_cases e : x = i
        · subst e; simp [hun]
        · rw [getD_set_ne false (Ne.symm e)] at hx; exact hx
      omega
    have hdst : dstOf ops i = o.dst := by simp [dstOf, ho]
    have hcl' : ∀ j k, j < ops.size → k < ops.size → (listed.setIfInBounds i true).getD j false = true → isB B j k = true → (listed.setIfInBounds i true).getD k false = true := fun j k hj hk hL hb => by
      rw [hset k hk]
      rw [hset j hj] at hL
      by_cases ek : k = i
      · rw [if_pos ek]
      · rw [if_neg ek]
        by_cases ej : j = i
        · subst ej; exact hbef k hk hb
        · rw [if_neg ej] at hL; exact hl.cl j k hj hk hL hb
    by_cases hfi : isFl ops i = true
    · -- an allocation: its block is kept aside
      obtain ⟨o', d, t, ho', hd, hop, hgn, _⟩ := isFl_of hfi
      rw [ho] at ho'; cases ho'
      have hmv := hF.v ho hfi
      have hgo : goesA (guardA nt ops (envAt ops val env0 i) o) = true := by simp [guardA, hgn, goesA]
      obtain ⟨g1, _, _⟩ := hgood.ao hgo hmv (by rw [hop]; rfl)
      have haop : aop C (ev C nt (envAt ops val env0 i)) (st (rank fl i)) o.op = allocA (st (rank fl i)) (C.ty t) := by rw [hop]; rfl
      rw [haop] at g1
      cases hty : C.ty t with
      | none => rw [hty] at g1; exact g1.elim
      | some ti =>
      have hri : m ≤ rank fl i := by
        rcases Nat.lt_or_ge (rank fl i) m with h | h
        · have := hl.al i hi hfi h; rw [hun] at this; cases this
        · exact h
      unfold wpOpIn
      simp only [ho]
      rw [wanted_eq hrel.env (by rw [hgd]; exact hgood.g), hgd, hgo]
      simp only [if_true]
      have hexec : (execOp a.eval o).run C.P w = .ok (.value (.pointer (some ⟨w.heap.size, 0, none⟩))) (w.alloc (.cells ti.zero.cells t)) := by simp [execOp, hop, Instr.alloc, C.run_zero hty, run_newVar]
      refine ⟨fun f hf => trivial, ?_⟩
      rw [Oper.semAt_eq _ _ _ (by intro c h; rw [hop] at h; cases h), hexec, Oper.uponIn_value]
      have hinv := hrel.inv.other (.cells ti.zero.cells t)
      have hext' : Ext G0 σ0 ws G (st m) (w.alloc (.cells ti.zero.cells t)) := hext.trans (Ext.other G (st m) _)
      have asd : ∀ j, Asd ops fl (listed.setIfInBounds i true) m j ↔ Asd ops fl listed m j ∨ j = i := fun j => by
        constructor
        · rintro ⟨k1, k2, k3, k4⟩
          rw [hset j k1] at k3
          by_cases e : j = i
          · exact .inr e
          · rw [if_neg e] at k3; exact .inl ⟨k1, k2, k3, k4⟩
        · rintro (⟨k1, k2, k3, k4⟩ | rfl)
          · exact ⟨k1, k2, by rw [hset j k1]; split; rfl; exact k3, k4⟩
          · exact ⟨hi, hfi, by rw [hset j hi, if_pos rfl], by omega⟩
      have adp : ∀ j, j < ops.size → (Adp ops fl (listed.setIfInBounds i true) m j ↔ Adp ops fl listed m j) := fun j hj => by
        unfold Adp
        split
        · exact Iff.rfl
        · rename_i hf
          rw [hset j hj, if_neg (by rintro rfl; exact hf hfi)]
      have hnd : ∀ j, Asd ops fl listed m j → dstOf ops j ≠ some d := noAsd d (by simp [namesT, hd])
      obtain ⟨bl, hb1, hb2⟩ := ha
      have hlt : ∀ j, Asd ops fl listed m j → bl j < w.heap.size := fun j hj => by
        obtain ⟨_, _, _, _, _, _, _, _, _, _, _, q8, _⟩ := hb1 j hj
        exact (Array.getElem?_eq_some_iff.1 q8).1
      have hLSP : LSP ops fl B val env0 (listed.setIfInBounds i true) m (upd env d .undef) := {
        size := by simp [hl.size]
        cl := hcl'
        mv := fun j hj hm hf => by rw [hset j hj, if_neg (by rintro rfl; rw [hfi] at hf; cases hf)]; exact hl.mv j hj hm hf
        al := fun j hj hf hr => by rw [hset j hj]; split; rfl; exact hl.al j hj hf hr
        ad := fun j k hj hk h5 h6 h7 h8 => by
          rw [hset j hj, if_neg (by rintro rfl; rw [hfi] at h6; cases h6)] at h8
          exact hl.ad j k hj hk h5 h6 h7 h8
        le := hl.le
        env := fun u hu => by
          have hne : u ≠ d := fun e => by subst e; exact hu i ((asd i).2 (.inr rfl)) (by rw [hdst, hd])
          have hval : upd env d .undef u = env u := by simp [upd, hne]
          obtain ⟨e1, e2⟩ := hl.env u fun j hj => hu j ((asd j).2 (.inl hj))
          rw [EnvT, hval]
          exact ⟨fun j hj hA hdj hmax => e1 j hj ((adp j hj).1 hA) hdj fun k hk hAk hdk => hmax k hk ((adp k hk).2 hAk) hdk, fun hno => e2 fun j hj hA => hno j hj ((adp j hj).2 hA)⟩ }
      have hput : ∀ u, u ≠ d → (a.put o.dst (.pointer (some ⟨w.heap.size, 0, none⟩))).tmps.getD u undef = a.tmps.getD u undef := fun u hu => by
        rw [hd]; simp only [Act.put]; exact getV_set_ne (Ne.symm hu)
      have hdn : d < nt := hnt i o d hfi ho hd
      have hsame : (a.put o.dst (.pointer (some ⟨w.heap.size, 0, none⟩))).tmps.getD d undef = .pointer (some ⟨w.heap.size, 0, none⟩) := by
        rw [hd]; simp only [Act.put]
        have : d < a.tmps.size := by rw [hrel.env.size]; exact hdn
        simp [Array.getD_eq_getD_getElem?, this]
      have hall : AsdAll C ops fl (listed.setIfInBounds i true) m w0 ws G (st m) (a.put o.dst (.pointer (some ⟨w.heap.size, 0, none⟩))) (w.alloc (.cells ti.zero.cells t)) := by
        refine ⟨fun j => if j = i then w.heap.size else bl j, fun j hj => ?_, fun j k hj hk e => ?_⟩
        · rcases (asd j).1 hj with hj | rfl
          · have hji := notA j hj
            show AsdAt C ops w0 ws G (st m) _ _ j (if j = i then w.heap.size else bl j)
            rw [if_neg hji]
            obtain ⟨d', t', o', ti', q1, q2, q3, q4, q5, q6, q7, q8, q9, q10⟩ := hb1 j hj
            refine ⟨d', t', o', ti', q1, q2, q3, q4, ?_, q6, q7, ?_, q9, q10⟩
            · rw [hput d' (fun e => hnd j hj (by simp [dstOf, q1, q2, e]))]; exact q5
            · rw [Below.heap_alloc _ _ _ (hlt j hj)]; exact q8
          · show AsdAt C ops w0 ws G (st m) _ _ j (if j = j then w.heap.size else bl j)
            rw [if_pos rfl]
            refine ⟨d, t, o, ti, ho, hd, hop, hty, hsame, hrel.inv.base_le, hext.size, heap_alloc_new w _, fun k => ?_, fun hO => ?_⟩
            · cases hI : G.I w.heap.size k with
              | none => rfl
              | some v => have := hrel.inv.imm_lt hI; omega
            · have := Own.lt hrel.inv hO; omega
        · have hj' := (asd j).1 hj
          have hk' := (asd k).1 hk
          rcases hj' with hj' | rfl <;> rcases hk' with hk' | rfl
          · simp only [if_neg (notA j hj'), if_neg (notA k hk')] at e
            exact hb2 j k hj' hk' e
          · simp only [if_neg (notA j hj'), if_true] at e
            have := hlt j hj'; omega
          · simp only [if_neg (notA k hk'), if_true] at e
            have := hlt k hk'; omega
          · rfl
      have hrel' : Rel C w0 G nt (upd env d .undef) (st m) (a.put o.dst (.pointer (some ⟨w.heap.size, 0, none⟩))) (w.alloc (.cells ti.zero.cells t)) := by
        have := hrel.env.put (rep_ofV1 G Go.undef |> fun _ => Rep.undef (.pointer (some ⟨w.heap.size, 0, none⟩))) o.dst
        rw [hd] at this
        exact ⟨hinv, by rw [hd]; exact this⟩
      obtain ⟨m', env', G', k1, k2, k3, k4, k5⟩ := adopt_all hF hlen good _ m _ G (Nat.le_refl _) hLSP hall hrel' hext'
      exact ih _ env' m' G' _ _ hcnt k1 k2 k3 k4 k5 (by rw [← hdf, hd]; rfl)
    · have hfi : isFl ops i = false := by simpa using hfi
      have hmle : (flAt fl i).mv = true → m = rank fl i := fun hmv => by
        have h1 : ¬ rank fl i < m := fun h => by have := (hl.mv i hi hmv hfi).2 h; rw [hun] at this; cases this
        rcases Nat.lt_or_ge m (rank fl i) with hlt | hge
        · exfalso
          obtain ⟨j, h2, h3, h4⟩ := of_rank hlen (Nat.le_of_lt hi) hlt
          have h5 := hF.m ho (show j < ops.size by omega) h2 h3
          rw [if_pos hmv] at h5
          rcases h5 with h5 | h5
          · rw [hfi] at h5; cases h5
          · have hlj := hbef j (by omega) h5
            cases hfj : isFl ops j with
            | true => exact hclo j ⟨by omega, hfj, hlj, by omega⟩ h4
            | false => have := (hl.mv j (by omega) h3 hfj).1 hlj; omega
        · omega
      have asd0 : ∀ j m', (m' = if (flAt fl i).mv = true then m + 1 else m) → Asd ops fl (listed.setIfInBounds i true) m' j → Asd ops fl listed m j := fun j m' hm' ⟨k1, k2, k3, k4⟩ => by
        have hji : j ≠ i := by rintro rfl; rw [hfi] at k2; cases k2
        rw [hset j k1, if_neg hji] at k3
        refine ⟨k1, k2, k3, fun h => k4 ?_⟩
        split at hm' <;> omega
      have adp : ∀ j m', j < ops.size → (m' = if (flAt fl i).mv = true then m + 1 else m) → (Adp ops fl (listed.setIfInBounds i true) m' j ↔ Adp ops fl listed m j ∨ j = i) := fun j m' hj hm' => by
        unfold Adp
        split
        · rename_i hf
          have hji : j ≠ i := by rintro rfl; rw [hfi] at hf; cases hf
          obtain ⟨oj, _, _, hoj, _⟩ := isFl_of hf
          have hmj := hF.v hoj hf
          by_cases hmi : (flAt fl i).mv = true
          · rw [if_pos hmi] at hm'
            have hmr := hmle hmi
            have hne : rank fl j ≠ rank fl i := fun e => hji (rank_inj hlen hj hi hmj hmi e)
            constructor
            · intro h; exact .inl (by omega)
            · rintro (h | h)
              · omega
              · exact absurd h hji
          · rw [if_neg hmi] at hm'
            constructor
            · intro h; exact .inl (by omega)
            · rintro (h | h)
              · omega
              · exact absurd h hji
        · rename_i hf
          rw [hset j hj]
          by_cases e : j = i
          · rw [if_pos e]; exact ⟨fun _ => .inr e, fun _ => rfl⟩
          · rw [if_neg e]; exact ⟨.inl, fun h => h.resolve_right e⟩
      have hLSP : ∀ m', (m' = if (flAt fl i).mv = true then m + 1 else m) → LSP ops fl B val env0 (listed.setIfInBounds i true) m' (putA env o.dst (val i)) := fun m' hm' => {
        size := by simp [hl.size]
        cl := hcl'
        mv := fun k hk hmk hfk => by
          rw [hset k hk]
          by_cases ek : k = i
          · subst ek
            rw [if_pos hmk] at hm'
            have := hmle hmk
            simp; omega
          · rw [if_neg ek, hl.mv k hk hmk hfk]
            by_cases hmi : (flAt fl i).mv = true
            · rw [if_pos hmi] at hm'
              have hmr := hmle hmi
              have hne : rank fl k ≠ rank fl i := fun e => ek (rank_inj hlen hk hi hmk hmi e)
              omega
            · rw [if_neg hmi] at hm'; omega
        al := fun j hj hf hr => by
          have hji : j ≠ i := by rintro rfl; rw [hfi] at hf; cases hf
          have := (adp j m' hj hm').1 (by unfold Adp; rw [if_pos hf]; exact hr)
          rcases this with h | h
          · unfold Adp at h; rw [if_pos hf] at h; rw [hset j hj, if_neg hji]; exact hl.al j hj hf h
          · exact absurd h hji
        ad := fun j k hj hk h5 h6 h7 h8 => by
          rw [hset j hj] at h8
          have : rank fl k < m := by
            by_cases e : j = i
            · subst e
              have := bound k hk h7
              unfold Adp at this; rw [if_pos h5] at this; exact this
            · rw [if_neg e] at h8; exact hl.ad j k hj hk h5 h6 h7 h8
          split at hm' <;> omega
        le := by
          by_cases hmi : (flAt fl i).mv = true
          · rw [if_pos hmi] at hm'
            have hmr := hmle hmi
            have := rank_lt (fl := fl) hi (by omega) hmi
            omega
          · rw [if_neg hmi] at hm'; have := hl.le; omega
        env := fun t ht => by
          by_cases hd : o.dst = some t
          · have e : putA env o.dst (val i) t = val i := by rw [hd]; simp [putA, upd]
            have htn : t ∈ namesT ops o := by simp [namesT, hd]
            rw [EnvT, e]
            refine ⟨fun k hk hL hdk hmax => ?_, fun hno => absurd (hdst.trans hd) (hno i hi ((adp i m' hi hm').2 (.inr rfl)))⟩
            by_cases ek : k = i
            · subst ek; rfl
            · exfalso
              have hle := hmax i hi ((adp i m' hi hm').2 (.inr rfl)) (hdst.trans hd)
              rcases hF.n ho hk htn hdk with rfl | ⟨h1, h2⟩ | ⟨h1, h2⟩
              · exact ek rfl
              · omega
              · have hlk := hlater k hk h2
                rcases (adp k m' hk hm').1 hL with h | h
                · unfold Adp at h
                  split at h
                  · rename_i hf; have := hl.al k hk hf h; rw [hlk] at this; cases this
                  · rw [hlk] at h; cases h
                · exact ek h
          · have e : putA env o.dst (val i) t = env t := by
              cases hdo : o.dst with
              | none => rfl
              | some d =>
                have : t ≠ d := by rintro rfl; exact hd hdo
                simp [putA, upd, this]
            have hdi : dstOf ops i ≠ some t := fun h => hd (hdst.symm.trans h)
            rw [EnvT, e]
            by_cases hx : ∃ j, Asd ops fl listed m j ∧ dstOf ops j = some t
            · -- then it is still kept aside
              obtain ⟨j, hj, hdj⟩ := hx
              exfalso
              obtain ⟨k1, k2, k3, k4⟩ := hj
              refine ht j ⟨k1, k2, by rw [hset j k1]; split; rfl; exact k3, fun h => ?_⟩ hdj
              have hji : j ≠ i := by rintro rfl; rw [hfi] at k2; cases k2
              have := (adp j m' k1 hm').1 (by unfold Adp; rw [if_pos k2]; exact h)
              rcases this with h | h
              · unfold Adp at h; rw [if_pos k2] at h; exact k4 h
              · exact hji h
            · obtain ⟨e1, e2⟩ := hl.env t fun j hj hdj => hx ⟨j, hj, hdj⟩
              refine ⟨fun k hk hL hdk hmax => e1 k hk ?_ hdk fun j hj hLj hdj => hmax j hj ((adp j m' hj hm').2 (.inl hLj)) hdj, fun hno => e2 fun k hk hL => hno k hk ((adp k m' hk hm').2 (.inl hL))⟩
              rcases (adp k m' hk hm').1 hL with h | h
              · exact h
              · subst h; exact absurd hdk hdi }
      have asdKeep : ∀ m' G' v' w', (m' = if (flAt fl i).mv = true then m + 1 else m) → Ext G (st m) w G' (st m') w' → AsdAll C ops fl (listed.setIfInBounds i true) m' w0 ws G' (st m') (a.put o.dst v') w' := fun m' G' v' w' hm' he => by
        obtain ⟨bl, hb1, hb2⟩ := ha
        refine ⟨bl, fun j hj => ?_, fun j k hj hk e => hb2 j k (asd0 j m' hm' hj) (asd0 k m' hm' hk) e⟩
        have hj := asd0 j m' hm' hj
        obtain ⟨d', t', o', ti', q1, q2, q3, q4, q5, q6, q7, q8, q9, q10⟩ := hb1 j hj
        have hlt := (Array.getElem?_eq_some_iff.1 q8).1
        obtain ⟨r1, r2, r3⟩ := he.keep (bl j) hlt q10
        refine ⟨d', t', o', ti', q1, q2, q3, q4, ?_, q6, q7, r1.trans q8, fun k => (r2 k).trans (q9 k), r3⟩
        cases hdo : o.dst with
        | none => exact q5
        | some d =>
          have hne : d' ≠ d := fun e => noAsd d (by simp [namesT, hdo]) j hj (by simp [dstOf, q1, q2, e])
          simp only [Act.put]
          rw [getV_set_ne (Ne.symm hne)]; exact q5
      unfold wpOpIn
      simp only [ho]
      rw [wanted_eq hrel.env (by rw [hgd]; exact hgood.g)]
      rw [hgd]
      cases hgo : goesA (guardA nt ops (envAt ops val env0 i) o) with
      | true =>
        simp only [if_true]
        have hgo' := hgood.go hgo
        have hstep : ∃ m', (m' = if (flAt fl i).mv = true then m + 1 else m) ∧ OpStep C o (ev C nt env) (st m) (val i) (st m') := by
          by_cases hmi : (flAt fl i).mv = true
          · rw [if_pos hmi] at hgo' ⊢
            have hmr := hmle hmi
            rw [← hmr] at hgo'
            exact ⟨m + 1, rfl, hgo'.congr hev⟩
          · rw [if_neg hmi] at hgo' ⊢
            refine ⟨m, rfl, (hgo' m ?_).congr hev⟩
            by_cases hp : pureOp o.op = true
            · exact .inl hp
            · refine .inr ⟨?_, ?_, hl.le⟩
              · rcases Nat.lt_or_ge (m + (flAt fl i).bk) (rank fl i) with hlt | hge
                · exfalso
                  obtain ⟨j, h2, h3, h4⟩ := of_rank hlen (Nat.le_of_lt hi) (show m < rank fl i by omega)
                  have h5 := hF.m ho (show j < ops.size by omega) h2 h3
                  rw [if_neg hmi] at h5
                  rcases h5 with h5 | h5 | h5
                  · exact hp h5
                  · have hlj := hbef j (by omega) h5
                    cases hfj : isFl ops j with
                    | true => exact hclo j ⟨by omega, hfj, hlj, by omega⟩ h4
                    | false => have := (hl.mv j (by omega) h3 hfj).1 hlj; omega
                  · omega
                · exact hge
              · rcases Nat.lt_or_ge (rank fl i + (flAt fl i).fw) m with hlt | hge
                · exfalso
                  obtain ⟨j, h2, h3, h4⟩ := of_rank hlen (Nat.le_refl _) (show rank fl i + (flAt fl i).fw < rank fl ops.size by have := hl.le; omega)
                  have hLj : listed.getD j false = true := by
                    cases hfj : isFl ops j with
                    | true => exact hl.al j h2 hfj (by omega)
                    | false => exact (hl.mv j h2 h3 hfj).2 (by omega)
                  have hij : i < j := by
                    rcases Nat.lt_or_ge i j with h | h
                    · exact h
                    · exfalso
                      rcases Nat.lt_or_eq_of_le h with h | rfl
                      · have := rank_lt (fl := fl) h (by omega) h3; omega
                      · exact hmi h3
                  have h5 := hF.f ho h2 hij h3 (by simpa using hmi)
                  rcases h5 with h5 | h5 | h5
                  · exact hp h5
                  · rw [hlater j h2 h5] at hLj; cases hLj
                  · omega
                · exact hge
        obtain ⟨m', hm', hstep⟩ := hstep
        refine hstep ro w0 G a w hrel.inv (fun x _ => hrel.env.ev hrel.inv x) _ _ fun G' v' w' hr hi' he => ?_
        obtain ⟨m2, env2, G2, k1, k2, k3, k4, k5⟩ := adopt_all hF hlen good _ m' _ G' (Nat.le_refl _) (hLSP m' hm') (asdKeep m' G' v' w' hm' he) ⟨hi', (hrel.env.mono he.le).put hr o.dst⟩ (hext.trans he)
        exact ih _ env2 m2 G2 _ _ hcnt k1 k2 k3 k4 k5 (by rw [← hdf]; cases o.dst <;> rfl)
      | false =>
        simp only [Bool.false_eq_true, if_false]
        refine ⟨fun _ _ => trivial, ?_⟩
        obtain ⟨hv, hs⟩ := hgood.no hgo
        have hst : ∃ m', (m' = if (flAt fl i).mv = true then m + 1 else m) ∧ st m' = st m := by
          by_cases hmi : (flAt fl i).mv = true
          · rw [if_pos hmi]
            have hmr := hmle hmi
            exact ⟨_, rfl, by rw [hmr]; exact hs hmi⟩
          · rw [if_neg hmi]; exact ⟨_, rfl, rfl⟩
        obtain ⟨m', hm', hsm⟩ := hst
        have he : Ext G (st m) w G (st m') w := by rw [hsm]; exact .refl _ _ _
        obtain ⟨m2, env2, G2, k1, k2, k3, k4, k5⟩ := adopt_all hF hlen good _ m' _ G (Nat.le_refl _) (hLSP m' hm') (asdKeep m' G Go.undef w hm' he) ⟨by rw [hsm]; exact hrel.inv, by rw [hv]; exact hrel.env.put (rep_skp G) o.dst⟩ (hext.trans he)
        exact ih _ env2 m2 G2 _ _ hcnt k1 k2 k3 k4 k5 (by rw [← hdf]; cases o.dst <;> rfl)
def fits (ops : Array Oper) (nt : Nat) : Bool := (List.range ops.size).all fun i => match ops[i]? with | some o => (match o.dst with | some d => decide (d < nt) | none => true) | none => true
theorem codeS_drawF {ro : Option Nat} {id : Nat} {env : Env} (hm : C.P.follows .mixedOrders = true) (hF : ChkF ops fl B) (hft : fits ops nt = true) (hlen : fl.length = ops.size)
    (good : ∀ i o, ops[i]? = some o → Good C nt ops fl val st env i o) : CodeS C ro nt (.region id ops true) env (st 0) .normal (envAt ops val env ops.size) (st (rank fl ops.size)) := by
  intro w0 G a w hrel cr hcr
  have hi' : Inv C.gl w0 G (st 0) { w with drawn := w.drawn + 1 } := hrel.inv.heap rfl rfl rfl rfl
  refine wpIn_region_any hm ?_
  have hnt : ∀ i o d, isFl ops i = true → ops[i]? = some o → o.dst = some d → d < nt := fun i o d hf ho hd => by
    have h1 := List.all_eq_true.1 hft i (List.mem_range.2 (Array.getElem?_eq_some_iff.1 ho).1)
    rw [ho] at h1
    simp only [hd, decide_eq_true_eq] at h1
    exact h1
  have none0 : ∀ i, Asd ops fl (Array.replicate ops.size false) 0 i → False := fun i hi => by
    obtain ⟨h1, _, h3, _⟩ := hi
    simp [Array.getD_eq_getD_getElem?, h1] at h3
  refine anyF (ws := w) (G0 := G) (σ0 := st 0) (df := a.defers) hF hlen good hrel.inv.base_le hnt (fun G' a' w' h1 h2 h3 => ⟨rfl, G', [], h1, h2, by simpa using h3, Marks.nil⟩) ops.size _ env 0 G a _ ?_ ?_ ?_ ?_ ⟨hi', hrel.env⟩ (.heap G _ rfl) rfl
  · have := List.countP_le_length (p := fun i => !(Array.replicate ops.size false).getD i false) (l := List.range ops.size)
    simpa using this
  · have noA : ∀ i, i < ops.size → ¬ Adp ops fl (Array.replicate ops.size false) 0 i := fun i hi h => by
      unfold Adp at h
      split at h
      · omega
      · simp [Array.getD_eq_getD_getElem?, hi] at h
    exact {
      size := by simp
      cl := fun j i hj hi hL => by simp [Array.getD_eq_getD_getElem?, hj] at hL
      mv := fun i hi hmv _ => by simp [Array.getD_eq_getD_getElem?, hi]
      al := fun i hi _ h => by omega
      ad := fun j i hj hi _ _ _ hL => by simp [Array.getD_eq_getD_getElem?, hj] at hL
      le := Nat.zero_le _
      env := fun t _ => ⟨fun i hi hL => absurd hL (noA i hi), fun _ => rfl⟩ }
  · exact fun i hi => (none0 i hi).elim
  · exact ⟨fun _ => 0, fun i hi => (none0 i hi).elim, fun i j hi => (none0 i hi).elim⟩
theorem WK.drawF {ro : Option Nat} {Q : Exit → Env → Sto → Prop} {env : Env} {σ : Sto} {id : Nat} (fl : List DF) (hm : C.P.follows .mixedOrders = true) (h : (chkF ops fl (Region.before ops).toList && fits ops nt) = true)
    (hw : wpD C nt (fun env σ => Q .normal env σ) ((ops.toList.map (roOf ops)).zip fl) [] [] env σ) : WK C ro nt (.oth (.region id ops true)) Q env σ := by
  intro c hc
  have hc' : c = .region id ops true := by
    cases c with
    | region id' ops' d => cases d with
      | false => cases hc
      | true => simp only [toK, K.oth.injEq] at hc; exact hc
    | goto l => simp only [toK, K.oth.injEq] at hc; exact hc
    | _ => first | (cases hc; done) | (simp only [toK, K.oth.injEq] at hc; exact hc)
  subst hc'
  rw [Bool.and_eq_true] at h
  have hlen : fl.length = ops.size := by
    have := h.1
    simp only [chkF, Bool.and_eq_true, beq_iff_eq] at this; exact this.1
  obtain ⟨st', val', h1, h2, _, h4, h5⟩ := wpD_sound (C := C) (nt := nt) (K := fun env σ => Q .normal env σ) (env0 := env) hlen ops.toList fl 0 [] [] env σ (fun _ => σ) (fun _ => .undef) rfl rfl rfl rfl (fun q hq => by simp [rank] at hq) (Nat.zero_le _) hw
  have hs0 : st' 0 = σ := h1 0 (Nat.zero_le _)
  have := codeS_drawF (ro := ro) (id := id) (env := env) hm (chkF_of h.1) h.2 hlen (fun i o ho => h4 i o (Nat.zero_le _) ho)
  rw [hs0] at this
  exact ⟨_, _, _, this, h5⟩
end
theorem leL.trans : ∀ {a b c : List AV}, leL a b → leL b c → leL a c
  | [], [], [], _, _ => trivial
  | x :: a, y :: b, z :: c, h, k => ⟨h.1.trans k.1, leL.trans h.2 k.2⟩
theorem Cut.less {σ σ' σ1 : Sto} (id : Nat) {cs : List AV} (ds : List AV) (hs : σ'.get id = some (.box cs)) (hle : leL cs ds) (h : Cut σ (σ'.set id (.box ds)) σ1) : Cut σ σ' σ1 where
  n1 := h.n1
  n2 := h.n2
  hi := h.hi
  lo := fun i o hi ho => by
    obtain ⟨⟨o', h1, h2⟩, h3⟩ := h.lo i o hi ho
    refine ⟨?_, h3⟩
    simp only [Sto.get_set] at h1
    by_cases e : i = id
    · subst e
      rw [if_pos rfl] at h1
      cases h1
      refine ⟨_, hs, ?_⟩
      rcases h2 with rfl | ⟨cs', ds', h4, rfl, h5⟩
      · exact .inr ⟨_, _, rfl, rfl, hle⟩
      · cases h4; exact .inr ⟨_, _, rfl, rfl, hle.trans h5⟩
    · rw [if_neg e] at h1
      exact ⟨o', h1, h2⟩
end Go.Lg
