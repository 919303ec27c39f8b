/- Lg, part Tm: a list that is appended to takes a number that was kept for it. -/
import Derived.Test.YtlhdjjnjhpfgoaaDoorLgX
set_option linter.unusedVariables false
set_option linter.unusedSimpArgs false
namespace Go.Lg
open Go.RowKit

def Sto.mv (σ : Sto) (r id : Nat) (o : AObj) : Sto := ⟨fun i => if i = r then some o else if i = id then Option.none else σ.get i, σ.next⟩
theorem Sto.get_mv (σ : Sto) (r id : Nat) (o : AObj) (i : Nat) : (σ.mv r id o).get i = if i = r then some o else if i = id then Option.none else σ.get i := (rfl)
theorem Sto.next_mv (σ : Sto) (r id : Nat) (o : AObj) : (σ.mv r id o).next = σ.next := (rfl)
attribute [go_sem] Sto.get_mv Sto.next_mv

theorem tok_move {gl : Nat → List AV} {w0 w : World} {G : Gh} {σ : Sto} (hi : Inv gl w0 G σ w) {r id es es' n : Nat} (hr : σ.get r = some (.tok es' 0)) (hid : σ.get id = some (.tok es n)) (hn : 0 < n) (hne : r ≠ id) :
    ∃ G', G.le G' ∧ (∀ xs v, xs.length = n → Rep G (.own id xs) v → Rep G' (.own r xs) v) ∧ Inv gl w0 G' (σ.mv r id (.tok es n)) w ∧ Ext G σ w G' (σ.mv r id (.tok es n)) w := by
  obtain ⟨T, t1, t2, t3, t4⟩ := hi.tok.ok id es n hid
  obtain ⟨T0, s1, s2, s3, s4⟩ := hi.tok.ok r es' 0 hr
  have hle : G.le ⟨G.j, G.I, fun i => if i = r then some T else G.T i⟩ := ⟨fun _ _ h => h, fun _ _ _ h => h, fun i T' hT => by
    by_cases e : i = r
    · subst e
      rw [s1] at hT; cases hT
      exact ⟨T, by simp, by omega, fun h => by omega⟩
    · exact ⟨T', by simp only [if_neg e]; exact hT, Nat.le_refl _, fun _ => rfl⟩⟩
  have hgs : ∀ i o', (σ.mv r id (.tok es n)).get i = some o' → (i = r ∧ o' = .tok es n) ∨ (i ≠ r ∧ i ≠ id ∧ σ.get i = some o') := fun i o' h => by
    rw [Sto.get_mv] at h
    split at h
    · rename_i e; cases h; exact .inl ⟨e, rfl⟩
    · split at h
      · cases h
      · rename_i e1 e2; exact .inr ⟨e1, e2, h⟩
  -- whose block it is
  have up : ∀ i b', TokB ⟨G.j, G.I, fun i => if i = r then some T else G.T i⟩ (σ.mv r id (.tok es n)) i b' → ∃ i', TokB G σ i' b' ∧ (i = r ∧ i' = id ∨ i ≠ r ∧ i ≠ id ∧ i' = i) := by
    rintro i b' ⟨es1, n', T', o', h1, h2, h3, h4⟩
    simp only at h2
    rcases hgs i _ h1 with ⟨rfl, e⟩ | ⟨hne1, hne2, h1'⟩
    · rw [if_pos rfl] at h2; cases h2
      cases e
      exact ⟨id, ⟨_, _, T, o', hid, t1, h3, h4⟩, .inl ⟨rfl, rfl⟩⟩
    · rw [if_neg hne1] at h2
      exact ⟨i, ⟨es1, n', T', o', h1', h2, h3, h4⟩, .inr ⟨hne1, hne2, rfl⟩⟩
  have lo : ∀ i o', (σ.mv r id (.tok es n)).get i = some o' → ∃ o'', σ.get i = some o'' := fun i o' h => by
    rcases hgs i o' h with ⟨rfl, _⟩ | ⟨_, _, h'⟩
    · exact ⟨_, hr⟩
    · exact ⟨_, h'⟩
  have ob : ∀ i o' B, (σ.mv r id (.tok es n)).get i = some o' → G.j i = some B → (∀ e m, o' ≠ .tok e m) → σ.get i = some o' := fun i o' B h hj hnt => by
    rcases hgs i o' h with ⟨rfl, rfl⟩ | ⟨_, _, h'⟩
    · exact absurd rfl (hnt es n)
    · exact h'
  have hjr : G.j r = none := by
    cases hj : G.j r with
    | none => rfl
    | some B => exact (hi.obj r _ B hr hj).2.elim
  refine ⟨_, hle, fun xs v hl hrep => ?_, {
    below := hi.below
    imm := hi.imm
    gl := fun g k c hc => (hi.gl g k c hc).imp fun v hv => ⟨hv.1, hv.2.mono hle⟩
    live := fun i o' h => by
      obtain ⟨o'', h'⟩ := lo i o' h
      exact hi.live i o'' h'
    obj := fun i o' B h1 h2 => by
      have h2' : G.j i = some B := h2
      rcases hgs i o' h1 with ⟨rfl, _⟩ | ⟨_, _, h'⟩
      · rw [hjr] at h2'; cases h2'
      · obtain ⟨q1, q2⟩ := hi.obj i o' B h' h2'
        exact ⟨q1, q2.keep hle rfl fun _ => rfl⟩
    fresh := fun i h => hi.fresh i h
    inj := fun i i' o1 o2 B1 B2 h1 h2 h3 h4 h5 => by
      obtain ⟨p1, h1'⟩ := lo i o1 h1
      obtain ⟨p2, h2'⟩ := lo i' o2 h2
      exact hi.inj i i' p1 p2 B1 B2 h1' h2' h3 h4 h5
    has := fun i o' h1 hnt => by
      rcases hgs i o' h1 with ⟨rfl, rfl⟩ | ⟨_, _, h1'⟩
      · exact absurd rfl (hnt es n)
      · exact hi.has i o' h1' hnt
    freshT := fun i h => by
      have h : σ.next ≤ i := h
      have hrl := hi.live r _ hr
      simp only
      rw [if_neg (by omega)]; exact hi.freshT i h
    tok := by
      refine ⟨fun i es1 n' h1 => ?_, fun i i' b' h1 h2 => ?_, fun i b' h1 i' o' B h2 h3 => ?_⟩
      · rcases hgs i _ h1 with ⟨rfl, e⟩ | ⟨hne1, hne2, h1'⟩
        · cases e
          exact ⟨T, by simp, t2, t3, t4⟩
        · obtain ⟨T', k1, k2, k3, k4⟩ := hi.tok.ok i es1 n' h1'
          exact ⟨T', by simp only; rw [if_neg hne1]; exact k1, k2, k3, k4⟩
      · obtain ⟨j, hj, ej⟩ := up i b' h1
        obtain ⟨j', hj', ej'⟩ := up i' b' h2
        have := hi.tok.inj j j' b' hj hj'
        rcases ej with ⟨rfl, rfl⟩ | ⟨q1, q2, rfl⟩ <;> rcases ej' with ⟨rfl, rfl⟩ | ⟨q3, q4, rfl⟩
        · rfl
        · exact absurd this.symm q4
        · exact absurd this q2
        · exact this
      · have h3' : G.j i' = some B := h3
        obtain ⟨j, hj, _⟩ := up i b' h1
        rcases hgs i' o' h2 with ⟨rfl, _⟩ | ⟨_, _, h2'⟩
        · rw [hjr] at h3'; cases h3'
        · exact hi.tok.oj j b' hj i' o' B h2' h3' }, {
    le := hle
    size := Nat.le_refl _
    keep := fun b' hb' hn' => ⟨rfl, fun _ => rfl, by
      rintro (⟨i, o', B, h1, h2, h3⟩ | ⟨i, h1⟩)
      · have h2' : G.j i = some B := h2
        rcases hgs i o' h1 with ⟨rfl, _⟩ | ⟨_, _, h1'⟩
        · rw [hjr] at h2'; cases h2'
        · exact hn' (.inl ⟨i, o', B, h1', h2', h3⟩)
      · obtain ⟨j, hj, _⟩ := up i _ h1
        exact hn' (.inr ⟨j, hj⟩)⟩
    next := Nat.le_refl _ }⟩
  cases hrep with
  | own _ _ _ h ht =>
    refine .own r xs v (h.mono hle) ?_
    obtain ⟨T', k1, k2, k3⟩ := ht
    rw [t1] at k1; cases k1
    exact ⟨T, by simp, k2, k3⟩

theorem WK.tokmove {C : Cx} {ro : Option Nat} {nt : Nat} {k : K} {Q : Exit → Env → Sto → Prop} {env : Env} {σ : Sto} (t r id : Nat) {es es' n : Nat} {xs : List AV} (hlt : t < nt) (ht : env t = .own id xs) (hr : σ.get r = some (.tok es' 0)) (hid : σ.get id = some (.tok es n)) (hx : xs.length = n) (hn : 0 < n) (hne : r ≠ id)
    (h : WK C ro nt k Q (upd env t (.own r xs)) (σ.mv r id (.tok es n))) : WK C ro nt k Q env σ := by
  intro c hc
  obtain ⟨e, env', σ', h1, h2⟩ := h c hc
  refine ⟨e, env', σ', fun w0 G a w hre cr hcr => ?_, h2⟩
  have hrt := hre.env.rep t hlt
  rw [ht] at hrt
  obtain ⟨G', k1, k2, k3, k4⟩ := tok_move hre.inv hr hid hn hne
  refine wpIn_mono (h1 w0 G' a w ⟨k3, hre.env.size, fun u hu => ?_⟩ cr (hcr.mono k1)) fun e2 a' w' hp => ?_
  · simp only [upd]
    split
    · rename_i e; rw [e]; exact k2 xs _ hx hrt
    · exact (hre.env.rep u hu).mono k1
  · obtain ⟨g1, G2, ms, g2, g3, g4⟩ := hp
    exact ⟨g1, G2, ms, g2, k4.trans g3, g4⟩
/-- A number is kept for a list that is made later. -/
theorem WK.reserve {C : Cx} {ro : Option Nat} {nt : Nat} {k : K} {Q : Exit → Env → Sto → Prop} {env : Env} {σ : Sto} (es : Nat) (h : WK C ro nt k Q env (σ.add (.tok es 0))) : WK C ro nt k Q env σ := by
  intro c hc
  obtain ⟨e, env', σ', h1, h2⟩ := h c hc
  refine ⟨e, env', σ', fun w0 G a w hr cr hcr => ?_, h2⟩
  obtain ⟨G', k1, k2, k3, k4⟩ := own_new hr.inv (Rep.list0 true none 0 (fun _ => rfl)) es
  refine wpIn_mono (h1 w0 G' a w ⟨k3, hr.env.size, fun u hu => (hr.env.rep u hu).mono k1⟩ cr (hcr.mono k1)) fun e2 a' w' hp => ?_
  obtain ⟨g1, G2, ms, g2, g3, g4⟩ := hp
  exact ⟨g1, G2, ms, g2, k4.trans g3, g4⟩

/-! ### Scopes that are left by no goto -/
section
variable {P : Program} {b : Frame} {a : Act} {k : List Item} {cs : List Frame} {w : World} {F : Fence} {n : Nat}
theorem stepR_scope {c : Code} : step P (lone (b.atR a (.code (.scope c) :: k)) cs w) = .next (lone (b.atR a (.code c :: .inScope c :: k)) cs w) :=
  step_lone_go (by simp [stepG, stepG.exec, Frame.atR])
theorem stepR_inScope {c : Code} : step P (lone (b.atR a (.inScope c :: k)) cs w) = .next (lone (b.atR a k) cs w) :=
  step_lone_go (by simp [stepG, stepG.exec, Frame.atR])
theorem wpIn_scope {c : Code} {Q : Exit → Act → World → Prop} (hng : ∀ l a w, ¬ Q (.goto l) a w) (h : c.wpIn F n P Q a w) : (Code.scope c).wpIn F n P Q a w := by
  intro b k cs hro hb hr
  have h0 : (lone (b.atR a (.code (.scope c) :: k)) cs w).fenced P F := fenced_calm hb hr rfl
  obtain ⟨e, a₁, w₁, hq, harr⟩ := h b (.inScope c :: k) cs hro hb hr
  cases e with
  | normal => exact ⟨.normal, a₁, w₁, hq, .head h0 stepR_scope (StepsIn.trans harr (.one (fenced_calm hb hr rfl) stepR_inScope))⟩
  | exit id =>
    have hx : exitTo id (.inScope c :: k) = exitTo id k := by simp [exitTo]
    exact ⟨.exit id, a₁, w₁, hq, fun k' hk => .head h0 stepR_scope (harr.1 k' (by rw [hx]; exact hk)),
      fun hr' hk => let ⟨k₁, h1, h2⟩ := harr.2 hr' (by rw [hx]; exact hk); ⟨k₁, h1, .head h0 stepR_scope h2⟩⟩
  | goto l => exact absurd hq (hng l _ _)
  | ret => exact ⟨_, a₁, w₁, hq, .of_steps (.one h0 stepR_scope) harr⟩
  | panic ch => exact ⟨_, a₁, w₁, hq, .of_steps (.one h0 stepR_scope) harr⟩
  | outgrown => exact ⟨_, a₁, w₁, hq, .of_steps (.one h0 stepR_scope) harr⟩
end
theorem codeS_scope {C : Cx} {ro : Option Nat} {nt : Nat} {c : Code} {env env' : Env} {σ σ' : Sto} {e : Exit} (h : CodeS C ro nt c env σ e env' σ') (hng : ∀ l, e ≠ .goto l) : CodeS C ro nt (.scope c) env σ e env' σ' := by
  intro w0 G a w hr cr hcr
  exact wpIn_scope (fun l a w hp => hng l hp.1.symm) (h w0 G a w hr cr hcr)
theorem WK.scope {C : Cx} {ro : Option Nat} {nt : Nat} {c : Code} {Q : Exit → Env → Sto → Prop} {env : Env} {σ : Sto} (h : WK C ro nt (toK c) (fun e env σ => (∀ l, e ≠ .goto l) ∧ Q e env σ) env σ) : WK C ro nt (.oth (.scope c)) Q env σ := by
  intro c' hc
  have hc' : c' = .scope c := by
    cases c' with
    | region id' ops' d => cases d with
      | false => cases hc
      | true => simp only [toK, K.oth.injEq] at hc; cases hc
    | scope => simp only [toK, K.oth.injEq] at hc; exact hc
    | _ => first | (cases hc; done) | (simp only [toK, K.oth.injEq] at hc; exact hc)
  subst hc'
  obtain ⟨e, env', σ', h1, h2, h3⟩ := h c rfl
  exact ⟨e, env', σ', codeS_scope h1 h2, h3⟩
end Go.Lg
