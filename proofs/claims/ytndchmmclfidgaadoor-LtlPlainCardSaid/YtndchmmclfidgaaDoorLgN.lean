/- Lg, part N: saying less; rows that nobody writes any more. -/
import Derived.Test.YtndchmmclfidgaaDoorLgT
set_option linter.unusedVariables false
set_option linter.unusedSimpArgs false
namespace Go.Lg
open Go.RowKit

/-! ### Saying less -/
def AV.le (a b : AV) : Prop := ∀ (G : Gh) (v : Value), Rep G a v → Rep G b v
theorem AV.le.refl (a : AV) : a.le a := fun _ _ h => h
theorem AV.le.trans {a b c : AV} (h : a.le b) (k : b.le c) : a.le c := fun G v x => k G v (h G v x)
theorem AV.le_undef (a : AV) : a.le .undef := fun _ v _ => .undef v

/-- One list of values says less than another, one by one. -/
def leL : List AV → List AV → Prop
  | [], [] => True
  | a :: as, b :: bs => a.le b ∧ leL as bs
  | _, _ => False
theorem leL.refl : ∀ l : List AV, leL l l
  | [] => trivial
  | a :: l => ⟨.refl a, leL.refl l⟩
theorem leL.len : ∀ {l k : List AV}, leL l k → l.length = k.length
  | [], [], _ => rfl
  | _ :: _, _ :: _, h => by simp [leL.len h.2]
theorem leL.at : ∀ {l k : List AV}, leL l k → ∀ (i : Nat) (b : AV), k[i]? = some b → ∃ a, l[i]? = some a ∧ a.le b
  | [], [], _, i, b, h => by simp at h
  | a :: l, c :: k, h, 0, b, hb => by simp at hb; subst hb; exact ⟨a, rfl, h.1⟩
  | a :: l, c :: k, h, i + 1, b, hb => by simpa using leL.at h.2 i b (by simpa using hb)

theorem AV.le_agg {cs ds : List AV} (h : leL cs ds) : (AV.agg cs).le (.agg ds) := fun G v hr => by
  cases hr with
  | agg _ vs hl hv =>
    refine .agg _ vs (by rw [hl, h.len]) fun i c u hc hu => ?_
    obtain ⟨a, ha, hle⟩ := h.at i c hc
    exact hle G u (hv i a u ha hu)
theorem AV.le_tup {cs ds : List AV} (h : leL cs ds) : (AV.tup cs).le (.tup ds) := fun G v hr => by
  cases hr with
  | tup _ vs hl hv =>
    refine .tup _ vs (by rw [hl, h.len]) fun i c u hc hu => ?_
    obtain ⟨a, ha, hle⟩ := h.at i c hc
    exact hle G u (hv i a u ha hu)

/-- Elements of a list. -/
def leE (x y : AV) : Prop := leL x.cells y.cells
def leEs : List AV → List AV → Prop
  | [], [] => True
  | a :: as, b :: bs => leE a b ∧ leEs as bs
  | _, _ => False
theorem leEs.refl : ∀ l : List AV, leEs l l
  | [] => trivial
  | a :: l => ⟨leL.refl _, leEs.refl l⟩
theorem leEs.len : ∀ {l k : List AV}, leEs l k → l.length = k.length
  | [], [], _ => rfl
  | _ :: _, _ :: _, h => by simp [leEs.len h.2]
theorem leEs.at : ∀ {l k : List AV}, leEs l k → ∀ (i : Nat) (b : AV), k[i]? = some b → ∃ a, l[i]? = some a ∧ leE a b
  | [], [], _, i, b, h => by simp at h
  | a :: l, c :: k, h, 0, b, hb => by simp at hb; subst hb; exact ⟨a, rfl, h.1⟩
  | a :: l, c :: k, h, i + 1, b, hb => by simpa using leEs.at h.2 i b (by simpa using hb)

theorem AV.le_list {f f' : Bool} {xs ys : List AV} (hf : f' = true → f = true) (h : leEs xs ys) : (AV.list f xs).le (.list f' ys) := fun G v hr => by
  cases hr with
  | list0 _ a cap hc =>
    cases ys with
    | nil => exact .list0 f' a cap fun e => hc (hf e)
    | cons y ys => exact h.elim
  | list _ _ b o len cap es vs hl hc hful hs hI hv =>
    refine .list f' ys b o len cap es vs (by rw [← h.len]; exact hl) hc (fun e => hful (hf e)) (fun i y hy => ?_) hI (fun i y k c hy hc => ?_)
    · obtain ⟨a, ha, hle⟩ := h.at i y hy
      rw [← hle.len]; exact hs i a ha
    · obtain ⟨a, ha, hle⟩ := h.at i y hy
      obtain ⟨a', ha', hle'⟩ := leL.at hle k c hc
      exact hle' G _ (hv i a k a' ha ha')

theorem AV.le_list' {f : Bool} (xs : List AV) : (AV.list f xs).le (.list false xs) := AV.le_list (fun e => by cases e) (leEs.refl xs)

section
variable {C : Cx}
theorem CallS.le {f : FuncId} {args args' : List AV} {σ σ' : Sto} {r r' : AV} (h : CallS C f args σ r σ') (ha : leL args' args) (hr : r.le r') : CallS C f args' σ r' σ' :=
  fun w0 G w V hi hV hrep => (h w0 G w V hi (by rw [hV, ha.len]) fun i x v hx hv => by
    obtain ⟨a, h1, h2⟩ := ha.at i x hx
    exact h2 G v (hrep i a v h1 hv)).mono fun e w' hp => by
    obtain ⟨G', v, h1, h2, h3⟩ := hp
    exact ⟨G', v, h1, hr G' v h2, h3⟩

theorem callR_pureL {ρ : Operand → AV} {σ : Sto} {cl : Call} {K : AV → Sto → Prop} {f : Operand} {g : FuncId} {args : List AV} {r : AV}
    (h : PCall C g args r) (hc : cl.callee = .value f) (hf : ρ f = .fn g []) (ha : leL (cl.args.toList.map ρ) args) (hk : K r σ) : callR C ρ σ (.call cl) K := by
  obtain ⟨fn, c, hb⟩ := h.here
  refine ⟨r, σ, fun o ho => opStep_call (f := f) (as := cl.args) (ts := cl.argTypes) (by rw [ho, ← hc]) hf hb ?_, hk⟩
  rw [List.append_nil]
  exact (h.callS σ).le ha (.refl r)

/-- As callK_pure; the arguments may say more. -/
theorem callK_pureL {nt : Nat} {d : Option Nat} {cl : Call} {rs : List RO} {K : Env → Sto → Prop} {env : Env} {σ : Sto} {f : Operand} {g : FuncId} {args : List AV} {r : AV}
    (h : PCall C g args r) (hc : cl.callee = .value f) (hf : ev C nt env f = .fn g []) (ha : leL (cl.args.toList.map (ev C nt env)) args) (hk : wpr C nt rs K (putA env d r) σ) : callK C nt d cl rs K env σ :=
  callR_pureL h hc hf ha hk

/-- A pure function's contract from its body; what comes out may say more. -/
theorem pcall_le {f : FuncId} {fn : Func} {c : Code} {args : List AV} {r : AV} (hb : Body C.P f fn c) (hl : args.length ≤ fn.ntmps) (hcl : ∀ x ∈ args, Closed x) (hclr : Closed r)
    (h : W C none fn.ntmps c (fun e env' σ' => (e = .normal ∨ e = .ret) ∧ allP (resOK C fn.ntmps env' σ') fn.results.toList ∧ (oneOr (fn.results.toList.map (resA C fn.ntmps env' σ'))).le r) (env0 args) .none) : PCall C f args r := by
  obtain ⟨r', σ', h1, h2⟩ := call_of (R := fun x _ => x.le r) hb hl h
  exact ⟨⟨fn, c, hb⟩, hcl, hclr, σ', h1.le (leL.refl _) h2⟩
end

/-! ### Rows that nobody writes any more -/
def frz (id : Nat) (elems : List AV) : AV → AV
  | .row i off len => if i = id then (if off + len ≤ elems.length then .list false ((elems.drop off).take len) else .undef) else .row i off len
  | .agg cs => .agg (cs.map fun c => match c with
    | .row i off len => if i = id then (if off + len ≤ elems.length then .list false ((elems.drop off).take len) else .undef) else .row i off len
    | c => c)
  | v => v
def frz1 (id : Nat) (elems : List AV) : AV → AV
  | .row i off len => if i = id then (if off + len ≤ elems.length then .list false ((elems.drop off).take len) else .undef) else .row i off len
  | v => v
def Env.frz (id : Nat) (elems : List AV) (env : Env) : Env := fun t => Lg.frz id elems (env t)
def Sto.frz (σ : Sto) (id : Nat) (elems : List AV) : Sto :=
  ⟨fun i => if i = id then Option.none else match σ.get i with | some (.box cs) => some (.box (cs.map (frz1 id elems))) | o => o, σ.next⟩

theorem frz1_rep {G : Gh} {id es : Nat} {B : Blk} {elems : List AV} {vs : Array Value} (hj : G.j id = some B) (he : B.es = es) (hz : B.o0 + elems.length * es ≤ B.sz) (hsz : vs.size = B.sz)
    (hs : ∀ (i : Nat) (x : AV), elems[i]? = some x → x.cells.length = es)
    (hI : ∀ k, B.o0 ≤ k → k < B.o0 + elems.length * es → G.I B.b k = vs[k]?)
    (hv : ∀ (i : Nat) (x : AV) (k : Nat) (c : AV), elems[i]? = some x → x.cells[k]? = some c → ∃ v : Value, vs[B.o0 + i * es + k]? = some v ∧ Rep G c v) {a : AV} {v : Value} (h : Rep G a v) : Rep G (frz1 id elems a) v := by
  cases a with
  | row i off len =>
    simp only [frz1]
    split
    · rename_i e
      subst e
      split
      · rename_i hle
        cases h with
        | row _ _ _ cap o B' hj' hc hor =>
          rw [hj] at hj'; cases hj'
          rcases hor with ⟨ho, hcap⟩ | ⟨h0, hcap⟩
          · have hlen : ((elems.drop off).take len).length = len := by simp; omega
            have hget : ∀ i, i < len → ((elems.drop off).take len)[i]? = elems[off + i]? := fun i hi => by
              rw [List.getElem?_take, if_pos hi, List.getElem?_drop]
            refine .list false _ B.b o len cap es (fun i k => vs.getD (B.o0 + (off + i) * es + k) undef) hlen hc (fun e => by cases e) (fun i x hx => ?_) (fun i k hi hk => ?_) (fun i x k c hx hc' => ?_)
            · have hi : i < len := by have := (List.getElem?_eq_some_iff.1 hx).1; omega
              rw [hget i hi] at hx
              exact hs _ x hx
            · have hpos : o + (i * es + k) = B.o0 + (off + i) * es + k := by rw [ho, he, Nat.add_mul]; omega
              have hlt : B.o0 + (off + i) * es + k < B.o0 + elems.length * es := by
                have : (off + i + 1) * es ≤ elems.length * es := Nat.mul_le_mul_right _ (by omega)
                rw [Nat.add_mul (off + i)] at this
                omega
              rw [hpos, hI _ (by omega) hlt, Array.getD_eq_getD_getElem?]
              have : B.o0 + (off + i) * es + k < vs.size := by omega
              simp [this]
            · have hi : i < len := by have := (List.getElem?_eq_some_iff.1 hx).1; omega
              rw [hget i hi] at hx
              obtain ⟨u, hu, hr⟩ := hv (off + i) x k c hx hc'
              simp only [Array.getD_eq_getD_getElem?, hu, Option.getD_some]
              exact hr
          · subst h0
            simp only [List.take_zero]
            exact .list0 false _ _ (fun e => by cases e)
      · exact .undef _
    · exact h
  | _ => exact h

theorem frz_rep {G : Gh} {id : Nat} {elems : List AV} (k1 : ∀ {a : AV} {v : Value}, Rep G a v → Rep G (frz1 id elems a) v) {a : AV} {v : Value} (h : Rep G a v) : Rep G (frz id elems a) v := by
  cases a with
  | agg cs =>
    cases h with
    | agg _ vs hl hv =>
      simp only [frz]
      refine .agg _ vs (by simpa using hl) fun i c u hc hu => ?_
      rw [List.getElem?_map] at hc
      cases hci : cs[i]? with
      | none => rw [hci] at hc; cases hc
      | some c0 =>
        rw [hci] at hc
        simp only [Option.map_some, Option.some.injEq] at hc
        have := k1 (hv i c0 u hci hu)
        subst hc
        exact this
  | row i off len => exact k1 h
  | _ => exact h

/-- The cells of the row never change again. -/
def Gh.freeze (G : Gh) (B : Blk) (n : Nat) (vs : Array Value) : Gh := ⟨G.j, fun b k => if b = B.b ∧ B.o0 ≤ k ∧ k < B.o0 + n then vs[k]? else G.I b k, G.T⟩

theorem freeze_step {C : Cx} {w0 w : World} {G : Gh} {σ : Sto} {nt : Nat} {env : Env} {a : Act} {id es : Nat} {elems : List AV} {fz : Bool} (h : Rel C w0 G nt env σ a w) (ho : σ.get id = some (.row es elems fz)) :
    ∃ G', Rel C w0 G' nt (env.frz id elems) (σ.frz id elems) a w ∧ Ext G σ w G' (σ.frz id elems) w := by
  have hi := h.inv
  have hget : ∀ i o, (σ.frz id elems).get i = some o → i ≠ id ∧ ((∃ cs, σ.get i = some (.box cs) ∧ o = .box (cs.map (frz1 id elems))) ∨ (σ.get i = some o ∧ ∀ cs, o ≠ .box cs)) := by
    intro i o hi
    simp only [Sto.frz] at hi
    split at hi
    · cases hi
    · rename_i hne
      refine ⟨hne, ?_⟩
      split at hi
      · rename_i cs hc
        exact .inl ⟨cs, hc, by cases hi; rfl⟩
      · rename_i hno
        exact .inr ⟨hi, fun cs e => hno cs (by rw [hi, e])⟩
  have hsome : ∀ i o, (σ.frz id elems).get i = some o → ∃ o', σ.get i = some o' := fun i o h => by
    obtain ⟨_, ⟨cs, h1, _⟩ | ⟨h1, _⟩⟩ := hget i o h
    · exact ⟨_, h1⟩
    · exact ⟨_, h1⟩
  -- what follows from a ghost state in which values are as they are told
  have core : ∀ G', G.le G' → (∀ b, ¬ (∃ id o B, σ.get id = some o ∧ G.j id = some B ∧ B.b = b) → ∀ k, G'.I b k = G.I b k) → G'.j = G.j → G'.T = G.T → (∀ b k v, G'.I b k = some v → w.cell? ⟨b, k, none⟩ = some v) →
      (∀ i o B, i ≠ id → σ.get i = some o → G.j i = some B → ∀ k, G'.I B.b k = G.I B.b k) →
      (∀ {a : AV} {v : Value}, Rep G' a v → Rep G' (frz1 id elems a) v) → ∃ G', Rel C w0 G' nt (env.frz id elems) (σ.frz id elems) a w ∧ Ext G σ w G' (σ.frz id elems) w := by
    intro G' hle hkeep hj' hT' himm hIk k1
    refine ⟨G', ⟨?_, ⟨h.env.size, fun t ht => frz_rep k1 ((h.env.rep t ht).mono hle)⟩⟩, ?_⟩
    · exact {
        below := hi.below
        imm := himm
        gl := fun g k c hc => (hi.gl g k c hc).imp fun v hv => ⟨hle.I _ _ _ hv.1, hv.2.mono hle⟩
        live := fun i o h1 => by obtain ⟨o', h2⟩ := hsome i o h1; exact hi.live i o' h2
        obj := fun i o B h1 h2 => by
          rw [hj'] at h2
          obtain ⟨hne, ⟨cs, h3, rfl⟩ | ⟨h3, hnb⟩⟩ := hget i o h1
          · obtain ⟨hb, hok⟩ := hi.obj i _ B h3 h2
            have hok' := hok.keep hle rfl (hIk i _ B hne h3 h2)
            obtain ⟨vs, ty, g1, g2, g3, g4⟩ := hok'
            refine ⟨hb, vs, ty, g1, by simpa using g2, fun j c hc => ?_, g4⟩
            rw [List.getElem?_map] at hc
            cases hcj : cs[j]? with
            | none => rw [hcj] at hc; cases hc
            | some c0 =>
              rw [hcj] at hc
              simp only [Option.map_some, Option.some.injEq] at hc
              obtain ⟨u, hu, hr⟩ := g3 j c0 hcj
              subst hc
              exact ⟨u, hu, k1 hr⟩
          · obtain ⟨hb, hok⟩ := hi.obj i _ B h3 h2
            exact ⟨hb, hok.keep hle rfl (hIk i _ B hne h3 h2)⟩
        fresh := fun i h1 => by rw [hj']; exact hi.fresh i h1
        inj := fun i i' o o' B B' h1 h2 h3 h4 hb => by
          rw [hj'] at h3 h4
          obtain ⟨p, hp⟩ := hsome i o h1
          obtain ⟨q, hq⟩ := hsome i' o' h2
          exact hi.inj i i' p q B B' hp hq h3 h4 hb
        has := fun i o h1 hn => by
          rw [hj']
          obtain ⟨_, ⟨cs, h3, rfl⟩ | ⟨h3, _⟩⟩ := hget i o h1
          · exact hi.has i _ h3 (fun _ _ e => by cases e)
          · exact hi.has i o h3 hn
        freshT := fun i h1 => by rw [hT']; exact hi.freshT i h1
        tok := hi.tok.step hT' (fun i es' n h1 => by
            obtain ⟨_, ⟨cs, h3, e⟩ | ⟨h3, _⟩⟩ := hget i _ h1
            · cases e
            · exact h3) (fun i b hbt => ⟨rfl, hkeep b (by rintro ⟨i', o', B', q1, q2, q3⟩; exact hi.tok.oj i b hbt i' o' B' q1 q2 q3)⟩) (fun i b hbt i' o' B' q1 q2 => by
            rw [hj'] at q2
            obtain ⟨p, hp⟩ := hsome i' o' q1
            exact hi.tok.oj i b hbt i' p B' hp q2) }
    · exact {
        le := hle
        size := Nat.le_refl _
        keep := fun b hb hn => ⟨rfl, hkeep b (fun h => hn (.inl h)), by
          rintro (⟨i, o, B, h1, h2, h3⟩ | ⟨i, es', n, T, k, h1, h2, h3⟩)
          · rw [hj'] at h2
            obtain ⟨o', h4⟩ := hsome i o h1
            exact hn (.inl ⟨i, o', B, h4, h2, h3⟩)
          · obtain ⟨_, ⟨cs, _, e⟩ | ⟨h4, _⟩⟩ := hget i _ h1
            · cases e
            · rw [hT'] at h2
              exact hn (.inr ⟨i, es', n, T, k, h4, h2, h3⟩)⟩
        next := Nat.le_refl _ }
  cases hj : G.j id with
  | none =>
    refine core G (.refl G) (fun _ _ _ => rfl) rfl rfl hi.imm (fun _ _ _ _ _ _ _ => rfl) fun {a v} hr => ?_
    cases a with
    | row i off len =>
      simp only [frz1]
      split
      · rename_i e
        subst e
        cases hr with
        | row _ _ _ cap o B' hj' hc hor => rw [hj] at hj'; cases hj'
      · exact hr
    | _ => exact hr
  | some B =>
    obtain ⟨hb, vs, ty, h1, h2, h3, h4, h5, h6, h7⟩ := hi.obj id _ B ho hj
    have hle : G.le (G.freeze B (elems.length * es) vs) := ⟨fun _ _ x => x, fun b k v hv => by
      simp only [Gh.freeze]
      split
      · rename_i hc
        obtain ⟨rfl, hk1, hk2⟩ := hc
        have := h7 k hk1
        rw [hv] at this
        split at this
        · exact this.symm
        · cases this
      · exact hv, Gh.same_T rfl⟩
    refine core (G.freeze B (elems.length * es) vs) hle (fun b hn k => ?_) rfl rfl (fun b k v hv => ?_) (fun i o B' hne hs hj' k => ?_) (fun {a v} hr => ?_)
    · have hne : b ≠ B.b := fun e => hn ⟨id, _, B, ho, hj, e.symm⟩
      simp only [Gh.freeze]
      rw [if_neg (by rintro ⟨e, _⟩; exact hne e)]
    · simp only [Gh.freeze] at hv
      split at hv
      · rename_i hc
        obtain ⟨rfl, _⟩ := hc
        rw [cell_at h1]; exact hv
      · exact hi.imm b k v hv
    · have hb' : B'.b ≠ B.b := fun e => hne (hi.inj i id o _ B' B hs ho hj' hj e)
      simp only [Gh.freeze]
      rw [if_neg (by rintro ⟨e, _⟩; exact hb' e)]
    · refine frz1_rep (G := G.freeze B (elems.length * es) vs) (B := B) (vs := vs) hj h3 h4 h2 h5 (fun k hk1 hk2 => ?_) (fun i x k c hx hc => ?_) hr
      · simp only [Gh.freeze]
        rw [if_pos ⟨trivial, hk1, hk2⟩]
      · obtain ⟨u, hu, hr'⟩ := h6 i x k c hx hc
        exact ⟨u, hu, hr'.mono hle⟩

theorem codeS_freeze {C : Cx} {ro : Option Nat} {nt : Nat} {c : Code} {env env' : Env} {σ σ' : Sto} {e : Exit} {id es : Nat} {elems : List AV} {fz : Bool} (ho : σ.get id = some (.row es elems fz))
    (h : CodeS C ro nt c (env.frz id elems) (σ.frz id elems) e env' σ') : CodeS C ro nt c env σ e env' σ' := fun w0 G a w hr cr hcr => by
  obtain ⟨G1, h1, h2⟩ := freeze_step hr ho
  refine wpIn_mono (h w0 G1 a w h1 cr (hcr.mono h2.le)) fun e2 a' w' hp => ?_
  obtain ⟨g1, G', ms, g2, g3, g4⟩ := hp
  exact ⟨g1, G', ms, g2, h2.trans g3, g4⟩

/-- A row that nobody writes any more: a list. -/
theorem WK.freeze {C : Cx} {ro : Option Nat} {nt : Nat} {k : K} {Q : Exit → Env → Sto → Prop} {env : Env} {σ : Sto} (id : Nat) {es : Nat} {elems : List AV} {fz : Bool} (ho : σ.get id = some (.row es elems fz))
    (h : WK C ro nt k Q (env.frz id elems) (σ.frz id elems)) : WK C ro nt k Q env σ := fun c hc => by
  obtain ⟨e, env2, σ2, h1, h2⟩ := h c hc
  exact ⟨e, env2, σ2, codeS_freeze ho h1, h2⟩

/-! ### Saying less in a walk -/
def Env.less (env env1 : Env) : Prop := ∀ t, (env t).le (env1 t)
structure Sto.less (σ σ1 : Sto) : Prop where
  next : σ1.next = σ.next
  get : ∀ i o, σ1.get i = some o → σ.get i = some o ∨ ∃ cs ds, σ.get i = some (.box cs) ∧ o = .box ds ∧ leL cs ds

theorem codeS_less {C : Cx} {ro : Option Nat} {nt : Nat} {c : Code} {env env1 env' : Env} {σ σ1 σ' : Sto} {e : Exit} (he : env.less env1) (hs : σ.less σ1) (h : CodeS C ro nt c env1 σ1 e env' σ') : CodeS C ro nt c env σ e env' σ' := fun w0 G a w hr cr hcr => by
  have hsome : ∀ i o, σ1.get i = some o → ∃ o', σ.get i = some o' := fun i o h => by
    rcases hs.get i o h with h | ⟨cs, ds, h, _⟩
    · exact ⟨_, h⟩
    · exact ⟨_, h⟩
  have hi := hr.inv
  have hi1 : Inv C.gl w0 G σ1 w := {
    below := hi.below
    imm := hi.imm
    gl := hi.gl
    live := fun i o h => by obtain ⟨o', h'⟩ := hsome i o h; rw [hs.next]; exact hi.live i o' h'
    obj := fun i o B h1 h2 => by
      rcases hs.get i o h1 with h3 | ⟨cs, ds, h3, rfl, hle⟩
      · exact hi.obj i o B h3 h2
      · obtain ⟨hb, vs, ty, g1, g2, g3, g4⟩ := hi.obj i _ B h3 h2
        refine ⟨hb, vs, ty, g1, by rw [g2, hle.len], fun j c hc => ?_, g4⟩
        obtain ⟨a, ha, hac⟩ := hle.at j c hc
        obtain ⟨u, hu, hru⟩ := g3 j a ha
        exact ⟨u, hu, hac G u hru⟩
    fresh := fun i h => hi.fresh i (by rw [← hs.next]; exact h)
    inj := fun i i' o o' B B' h1 h2 => by
      obtain ⟨p, hp⟩ := hsome i o h1
      obtain ⟨q, hq⟩ := hsome i' o' h2
      exact hi.inj i i' p q B B' hp hq
    has := fun i o h1 hn => by
      rcases hs.get i o h1 with h3 | ⟨cs, ds, h3, rfl, hle⟩
      · exact hi.has i o h3 hn
      · exact hi.has i _ h3 (fun _ _ e => by cases e)
    freshT := fun i h => hi.freshT i (by rw [← hs.next]; exact h)
    tok := hi.tok.step rfl (fun i es n h1 => by
        rcases hs.get i _ h1 with h3 | ⟨cs, ds, h3, e, hle⟩
        · exact h3
        · cases e) (fun _ _ _ => ⟨rfl, fun _ => rfl⟩) (fun i b hb i' o' B h1 h2 => by
        obtain ⟨p, hp⟩ := hsome i' o' h1
        exact hi.tok.oj i b hb i' p B hp h2) }
  have hx : Ext G σ w G σ1 w := {
    le := .refl G
    size := Nat.le_refl _
    keep := fun b hb hn => ⟨rfl, fun _ => rfl, by
      rintro (⟨i, o, B, h1, h2, h3⟩ | ⟨i, es, n, T, k, h1, h2⟩)
      · obtain ⟨o', h4⟩ := hsome i o h1
        exact hn (.inl ⟨i, o', B, h4, h2, h3⟩)
      · rcases hs.get i _ h1 with h3 | ⟨cs, ds, h3, e, hle⟩
        · exact hn (.inr ⟨i, es, n, T, k, h3, h2⟩)
        · cases e⟩
    next := by rw [hs.next]; exact Nat.le_refl _ }
  refine wpIn_mono (h w0 G a w ⟨hi1, hr.env.size, fun t ht => he t G _ (hr.env.rep t ht)⟩ cr hcr) fun e2 a' w' hp => ?_
  obtain ⟨g1, G', ms, g2, g3, g4⟩ := hp
  exact ⟨g1, G', ms, g2, hx.trans g3, g4⟩

theorem WK.less {C : Cx} {ro : Option Nat} {nt : Nat} {k : K} {Q : Exit → Env → Sto → Prop} {env env1 : Env} {σ σ1 : Sto} (he : env.less env1) (hs : σ.less σ1) (h : WK C ro nt k Q env1 σ1) : WK C ro nt k Q env σ := fun c hc => by
  obtain ⟨e, env2, σ2, h1, h2⟩ := h c hc
  exact ⟨e, env2, σ2, codeS_less he hs h1, h2⟩

theorem Env.frz_upd (id : Nat) (elems : List AV) (env : Env) (d : Nat) (v : AV) : Env.frz id elems (upd env d v) = upd (Env.frz id elems env) d (Lg.frz id elems v) := by
  funext t; simp only [Env.frz, upd]; split <;> rfl
theorem Env.frz_at (id : Nat) (elems : List AV) (env : Env) (t : Nat) : Env.frz id elems env t = Lg.frz id elems (env t) := (rfl)
theorem Sto.get_frz (σ : Sto) (id : Nat) (elems : List AV) (i : Nat) : (σ.frz id elems).get i = if i = id then Option.none else match σ.get i with | some (.box cs) => some (.box (cs.map (frz1 id elems))) | o => o := (rfl)
theorem Sto.next_frz (σ : Sto) (id : Nat) (elems : List AV) : (σ.frz id elems).next = σ.next := (rfl)
attribute [go_sem] Env.frz_upd Env.frz_at Sto.get_frz Sto.next_frz frz frz1

/-! ### Functions that leave what is there -/
/-- The function g with captured values caps: wherever J is true of the store, at these arguments it answers r and leaves every object that is there. -/
structure FnK (C : Cx) (g : FuncId) (caps : List AV) (J : Sto → Prop) (args : List AV) (r : AV) : Prop where
  here : ∃ fn c, Body C.P g fn c
  call : ∀ σ, J σ → ∃ σ', CallS C g (args ++ caps) σ r σ' ∧ Kept 0 σ σ'

theorem FnK.weaken {C : Cx} {g : FuncId} {caps : List AV} {J J' : Sto → Prop} {args : List AV} {r : AV} (h : FnK C g caps J args r) (hj : ∀ σ, J' σ → J σ) : FnK C g caps J' args r := ⟨h.here, fun σ hs => h.call σ (hj σ hs)⟩

/-- What is true of a store stays true where all objects stay. -/
def Stays (J : Sto → Prop) : Prop := ∀ σ σ', J σ → Kept 0 σ σ' → J σ'

theorem PCall.fnK {C : Cx} {g : FuncId} {args : List AV} {r : AV} (h : PCall C g args r) (J : Sto → Prop) : FnK C g [] J args r :=
  ⟨h.here, fun σ _ => ⟨σ, by rw [List.append_nil]; exact h.callS σ, .refl 0 σ⟩⟩

theorem callK_fnK {C : Cx} {nt : Nat} {d : Option Nat} {cl : Call} {rs : List RO} {K : Env → Sto → Prop} {env : Env} {σ : Sto} {f : Operand} {g : FuncId} {caps args : List AV} {r : AV} {J : Sto → Prop}
    (h : FnK C g caps J args r) (hj : J σ) (hc : cl.callee = .value f) (hf : ev C nt env f = .fn g caps) (ha : cl.args.toList.map (ev C nt env) = args) (hk : ∀ σ', Kept 0 σ σ' → wpr C nt rs K (putA env d r) σ') : callK C nt d cl rs K env σ := by
  obtain ⟨fn, c, hb⟩ := h.here
  obtain ⟨σ', h1, h2⟩ := h.call σ hj
  exact callK_gen hb h1 hc hf ha (hk σ' h2)

/-- The first place at which p is true, from i on; -1: nowhere. -/
def idxF {A : Type} (p : A → Bool) : List A → Nat → Int
  | [], _ => -1
  | x :: xs, i => if p x = true then i else idxF p xs (i + 1)

theorem idxF_any {A : Type} (p : A → Bool) : ∀ (xs : List A) (i : Nat), decide (idxF p xs i ≥ 0) = xs.any p
  | [], i => rfl
  | x :: xs, i => by
    simp only [idxF, List.any_cons]
    by_cases h : p x = true
    · simp [h]
    · simp only [h, if_false, Bool.false_or]; exact idxF_any p xs (i + 1)
theorem idxF_drop {A : Type} (p : A → Bool) : ∀ (xs : List A) (n i : Nat), (∀ x ∈ xs.take i, p x = false) → idxF p xs n = idxF p (xs.drop i) (n + i)
  | [], n, i, _ => by simp [idxF]
  | x :: xs, n, 0, _ => rfl
  | x :: xs, n, i + 1, h => by
    have hx : p x = false := h x (by simp)
    simp only [idxF, hx, Bool.false_eq_true, if_false, List.drop_succ_cons]
    rw [idxF_drop p xs (n + 1) i fun y hy => h y (by simp [hy])]
    congr 1
    omega

theorem callD_pure {C : Cx} {nt : Nat} {d : Option Nat} {cl : Call} {rs : List (RO × DF)} {hist : List Sto} {ob : Obl} {K : Env → Sto → Prop} {env : Env} {σ : Sto} {f : Operand} {g : FuncId} {args : List AV} {r : AV}
    (h : PCall C g args r) (hc : cl.callee = .value f) (hf : ev C nt env f = .fn g []) (ha : cl.args.toList.map (ev C nt env) = args) (hk : oblOK σ ob ∧ wpD C nt K rs (σ :: hist) (oblDec ob) (putA env d r) σ) : callD C nt d cl rs hist ob K env σ :=
  callR_pure h hc hf ha hk

theorem callD_fnK {C : Cx} {nt : Nat} {d : Option Nat} {cl : Call} {rs : List (RO × DF)} {hist : List Sto} {ob : Obl} {K : Env → Sto → Prop} {env : Env} {σ : Sto} {f : Operand} {g : FuncId} {caps args : List AV} {r : AV} {J : Sto → Prop}
    (h : FnK C g caps J args r) (hj : J σ) (hc : cl.callee = .value f) (hf : ev C nt env f = .fn g caps) (ha : cl.args.toList.map (ev C nt env) = args)
    (hk : ∀ σ', Kept 0 σ σ' → oblOK σ' ob ∧ wpD C nt K rs (σ :: hist) (oblDec ob) (putA env d r) σ') : callD C nt d cl rs hist ob K env σ := by
  obtain ⟨fn, c, hb⟩ := h.here
  obtain ⟨σ', h1, h2⟩ := h.call σ hj
  exact callR_gen hb h1 hc hf ha (hk σ' h2)
end Go.Lg
