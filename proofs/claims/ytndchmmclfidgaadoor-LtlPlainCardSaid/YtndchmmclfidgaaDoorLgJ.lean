/- Lg, part J: what a code asks and comes to, in the manner of a weakest precondition; contracts of functions. -/
import Derived.Test.YtndchmmclfidgaaDoorLgI
set_option linter.unusedVariables false
set_option linter.unusedSimpArgs false
namespace Go.Lg
open Go.RowKit

/-- An operation, without what is said for the reader. -/
structure RO where
  dst : Option Nat
  op : Op
  gd : Option (Operand × Bool)

def roOf (ops : Array Oper) (o : Oper) : RO :=
  ⟨o.dst, o.op, match o.guard with | none => none | some (j, want) => some (match (ops[j]?).bind (·.dst) with | some d => .tmp d | none => .const (.tuple #[]), want)⟩

/-- Does the operation enter a function? -/
def isCall : Op → Bool
  | .call c => match c.callee with
    | .value _ => true
    | .builtin b => (match b with | .append => true | .copy => true | .delete => true | .clear => true | _ => false)
    | _ => false
  | .mapEntry .. | .entryStore .. | .range .. | .next .. | .entry .. => true
  | _ => false

/-- One operation behind a guard that says yes, no. -/
def gdR (C : Cx) (nt : Nat) (g : Option (Operand × Bool)) (env : Env) (yes no : Prop) : Prop :=
  match g with
  | none => yes
  | some (x, want) => (ev C nt env x).isGd = true ∧ if ((ev C nt env x).goes want) = true then yes else no

/-- A call, and then K. -/
def callR (C : Cx) (ρ : Operand → AV) (σ : Sto) (op : Op) (K : AV → Sto → Prop) : Prop := ∃ v σ1, (∀ o : Oper, o.op = op → OpStep C o ρ σ v σ1) ∧ K v σ1

def wpr (C : Cx) (nt : Nat) : List RO → (Env → Sto → Prop) → Env → Sto → Prop
  | [], K => K
  | r :: rs, K => fun env σ => gdR C nt r.gd env
      (if isCall r.op = true then callR C (ev C nt env) σ r.op (fun v σ1 => wpr C nt rs K (putA env r.dst v) σ1)
       else (aop C (ev C nt env) σ r.op).c ∧ wpr C nt rs K (putA env r.dst (aop C (ev C nt env) σ r.op).v) (aop C (ev C nt env) σ r.op).s)
      (wpr C nt rs K (putA env r.dst .skp) σ)

/-! ### How it is reckoned -/
/-- A call, what is behind it kept closed. -/
def callK (C : Cx) (nt : Nat) (d : Option Nat) (cl : Call) (rs : List RO) (K : Env → Sto → Prop) (env : Env) (σ : Sto) : Prop :=
  callR C (ev C nt env) σ (.call cl) (fun v σ1 => wpr C nt rs K (putA env d v) σ1)
/-- A guarded operation, what is behind it kept closed. -/
def gdW (C : Cx) (nt : Nat) (g : AV) (want : Bool) (d : Option Nat) (op : Op) (rs : List RO) (K : Env → Sto → Prop) (env : Env) (σ : Sto) : Prop :=
  g.isGd = true ∧ if (g.goes want) = true then wpr C nt (⟨d, op, none⟩ :: rs) K env σ else wpr C nt rs K (putA env d .skp) σ

section
variable {C : Cx} {nt : Nat} {d : Option Nat} {op : Op} {rs : List RO} {K : Env → Sto → Prop} {env : Env} {σ : Sto}
theorem wpr_nil : wpr C nt [] K env σ = K env σ := (rfl)
theorem wpr_op (h : isCall op = false) : wpr C nt (⟨d, op, none⟩ :: rs) K env σ = ((aop C (ev C nt env) σ op).c ∧ wpr C nt rs K (putA env d (aop C (ev C nt env) σ op).v) (aop C (ev C nt env) σ op).s) := by
  simp only [wpr, gdR, h, Bool.false_eq_true, if_false]
theorem wpr_call {f : Operand} {as : Array Operand} {ts : Array TypeId} : wpr C nt (⟨d, .call ⟨.value f, as, ts⟩, none⟩ :: rs) K env σ = callK C nt d ⟨.value f, as, ts⟩ rs K env σ := (rfl)
theorem wpr_gd {x : Operand} {w : Bool} : wpr C nt (⟨d, op, some (x, w)⟩ :: rs) K env σ = gdW C nt (ev C nt env x) w d op rs K env σ := (rfl)
theorem gdW_tt : gdW C nt (.bool true) true d op rs K env σ = wpr C nt (⟨d, op, none⟩ :: rs) K env σ := by simp [gdW, AV.isGd, AV.goes]
theorem gdW_ff : gdW C nt (.bool false) false d op rs K env σ = wpr C nt (⟨d, op, none⟩ :: rs) K env σ := by simp [gdW, AV.isGd, AV.goes]
theorem gdW_tf : gdW C nt (.bool true) false d op rs K env σ = wpr C nt rs K (putA env d .skp) σ := by simp [gdW, AV.isGd, AV.goes]
theorem gdW_ft : gdW C nt (.bool false) true d op rs K env σ = wpr C nt rs K (putA env d .skp) σ := by simp [gdW, AV.isGd, AV.goes]
theorem gdW_skp {w : Bool} : gdW C nt (.tup []) w d op rs K env σ = wpr C nt rs K (putA env d .skp) σ := by simp [gdW, AV.isGd, AV.goes]
theorem gdW_split {w : Bool} (b : Bool) (ht : b = w → wpr C nt (⟨d, op, none⟩ :: rs) K env σ) (hf : b = (!w) → wpr C nt rs K (putA env d .skp) σ) : gdW C nt (.bool b) w d op rs K env σ := by
  refine ⟨rfl, ?_⟩
  simp only [AV.goes]
  cases b <;> cases w <;> simp_all
end

theorem guard_ro {C : Cx} {nt : Nat} {ops : Array Oper} {o : Oper} {env : Env} {yes no : Prop} (h : gdR C nt (roOf ops o).gd env yes no) :
    gOK (guardA nt ops env o) ∧ (goesA (guardA nt ops env o) = true → yes) ∧ (goesA (guardA nt ops env o) = false → no) := by
  unfold roOf at h
  unfold guardA
  cases hg : o.guard with
  | none =>
    rw [hg] at h
    exact ⟨trivial, fun _ => h, fun hn => by cases hn⟩
  | some jw =>
    obtain ⟨j, want⟩ := jw
    rw [hg] at h
    cases hd : (ops[j]?).bind (·.dst) with
    | none =>
      simp only [hd] at h ⊢
      exact absurd h.1 (by simp [ev, ofV, ofV1, AV.isGd])
    | some d =>
      simp only [hd] at h ⊢
      obtain ⟨h1, h2⟩ := h
      refine ⟨h1, fun hy => ?_, fun hn => ?_⟩
      · have hy : ((ev C nt env (.tmp d)).goes want) = true := hy
        rw [if_pos hy] at h2; exact h2
      · have hn : ((ev C nt env (.tmp d)).goes want) = false := hn
        rw [if_neg (by rw [hn]; decide)] at h2; exact h2

theorem wpr_sound {C : Cx} {nt : Nat} {ops : Array Oper} : ∀ (os : List Oper) (k : Nat) (K : Env → Sto → Prop) (env : Env) (σ : Sto), ops.toList.drop k = os → wpr C nt (os.map (roOf ops)) K env σ →
    ∃ env' σ', OpsS C nt ops (List.range' k os.length) env σ env' σ' ∧ K env' σ'
  | [], k, K, env, σ, _, h => ⟨env, σ, opsS_nil, h⟩
  | o :: os, k, K, env, σ, hd, h => by
    have ho : ops[k]? = some o := by
      have h1 : (ops.toList.drop k)[0]? = some o := by rw [hd]; rfl
      rw [List.getElem?_drop, Nat.add_zero, Array.getElem?_toList] at h1
      exact h1
    have hd2 : ops.toList.drop (k + 1) = os := by rw [← List.drop_drop, hd]; rfl
    simp only [List.map_cons, wpr] at h
    obtain ⟨hg, hy, hn⟩ := guard_ro h
    rw [List.length_cons, List.range'_succ]
    cases hgo : goesA (guardA nt ops env o) with
    | true =>
      have h := hy hgo
      split at h
      · obtain ⟨v, σ1, hs, hk⟩ := h
        obtain ⟨env', σ', h1, h2⟩ := wpr_sound os (k + 1) K _ _ hd2 hk
        exact ⟨env', σ', opsS_cons ho hg (fun _ => hs o rfl) (fun hn => by rw [hgo] at hn; cases hn) h1, h2⟩
      · obtain ⟨hc, hk⟩ := h
        obtain ⟨env', σ', h1, h2⟩ := wpr_sound os (k + 1) K _ _ hd2 hk
        exact ⟨env', σ', opsS_cons ho hg (fun _ => opStep_of_snd aop_sound hc (aop_noDefer hc)) (fun hn => by rw [hgo] at hn; cases hn) h1, h2⟩
    | false =>
      obtain ⟨env', σ', h1, h2⟩ := wpr_sound os (k + 1) K _ _ hd2 (hn hgo)
      exact ⟨env', σ', opsS_cons (v := .skp) (σ1 := σ) ho hg (fun hy => by rw [hgo] at hy; cases hy) (fun _ => ⟨rfl, rfl⟩) h1, h2⟩

/-- Code c comes, from env and σ, to an exit and a state of which Q is true. -/
def W (C : Cx) (ro : Option Nat) (nt : Nat) (c : Code) (Q : Exit → Env → Sto → Prop) (env : Env) (σ : Sto) : Prop := ∃ e env' σ', CodeS C ro nt c env σ e env' σ' ∧ Q e env' σ'

/-- What comes behind the first of two codes. -/
def andThen (C : Cx) (ro : Option Nat) (nt : Nat) (y : Code) (Q : Exit → Env → Sto → Prop) : Exit → Env → Sto → Prop
  | .normal => W C ro nt y Q
  | e => Q e

section
variable {C : Cx} {ro : Option Nat} {nt : Nat} {Q : Exit → Env → Sto → Prop} {env : Env} {σ : Sto}

theorem W.seq {x y : Code} (h : W C ro nt x (andThen C ro nt y Q) env σ) : W C ro nt (.seq x y) Q env σ := by
  obtain ⟨e, env1, σ1, h1, h2⟩ := h
  cases e with
  | normal =>
    obtain ⟨e2, env2, σ2, h3, h4⟩ := h2
    exact ⟨e2, env2, σ2, codeS_seq h1 h3, h4⟩
  | _ => exact ⟨_, env1, σ1, codeS_seq_exit h1 (by intro h; cases h), h2⟩

theorem W.region {id : Nat} {ops : Array Oper} (h : wpr C nt (ops.toList.map (roOf ops)) (fun env σ => Q .normal env σ) env σ) : W C ro nt (.region id ops false) Q env σ := by
  obtain ⟨env', σ', h1, h2⟩ := wpr_sound ops.toList 0 _ _ _ rfl h
  rw [Array.length_toList, ← List.range_eq_range'] at h1
  exact ⟨.normal, env', σ', codeS_region h1, h2⟩

theorem W.skip (h : Q .normal env σ) : W C ro nt .skip Q env σ := ⟨_, _, _, codeS_skip, h⟩
theorem W.label {l : Nat} (h : Q .normal env σ) : W C ro nt (.label l) Q env σ := ⟨_, _, _, codeS_label, h⟩
theorem W.exit {id : Nat} (h : Q (.exit id) env σ) : W C ro nt (.exit id) Q env σ := ⟨_, _, _, codeS_exit, h⟩
theorem W.ret (h : Q .ret env σ) : W C ro nt .ret Q env σ := ⟨_, _, _, codeS_ret, h⟩
theorem W.block {id : Nat} {c : Code} (h : W C ro nt c (fun e => Q (inBlk id e)) env σ) : W C ro nt (.block id c) Q env σ := by
  obtain ⟨e, env1, σ1, h1, h2⟩ := h
  exact ⟨_, _, _, codeS_block h1, h2⟩
theorem W.cond {c : Operand} {x y : Code} (b : Bool) (hc : ev C nt env c = .bool b) (ht : b = true → W C ro nt x Q env σ) (hf : b = false → W C ro nt y Q env σ) : W C ro nt (.cond c x y) Q env σ := by
  cases b with
  | true =>
    obtain ⟨e, env1, σ1, h1, h2⟩ := ht rfl
    exact ⟨e, env1, σ1, codeS_cond hc (by simpa using h1), h2⟩
  | false =>
    obtain ⟨e, env1, σ1, h1, h2⟩ := hf rfl
    exact ⟨e, env1, σ1, codeS_cond hc (by simpa using h1), h2⟩

theorem W.mono {c : Code} {Q' : Exit → Env → Sto → Prop} (h : W C ro nt c Q env σ) (hq : ∀ e env σ, Q e env σ → Q' e env σ) : W C ro nt c Q' env σ := by
  obtain ⟨e, env1, σ1, h1, h2⟩ := h
  exact ⟨e, env1, σ1, h1, hq _ _ _ h2⟩

/-- Fewer temporaries are known. -/
theorem W.forget {c : Code} (env1 : Env) (hl : Env.le env env1) (h : W C ro nt c Q env1 σ) : W C ro nt c Q env σ := by
  obtain ⟨e, env2, σ1, h1, h2⟩ := h
  exact ⟨e, env2, σ1, codeS_pre hl h1, h2⟩

/-- A loop: an invariant of environment and store, a measure that each round lowers. -/
theorem W.loop {c : Code} (I : Env → Sto → Prop) (μ : Env → Sto → Nat) (h0 : I env σ)
    (round : ∀ env σ, I env σ → W C ro nt c (fun e env' σ' => (e = .normal ∧ I env' σ' ∧ μ env' σ' < μ env σ) ∨ (e ≠ .normal ∧ Q e env' σ')) env σ) : W C ro nt (.loop c) Q env σ := by
  have key : ∀ n env σ, μ env σ = n → I env σ → ∃ e env' σ', LoopS C ro nt c env σ e env' σ' ∧ Q e env' σ' := by
    intro n
    induction n using Nat.strongRecOn with
    | _ n ih =>
      intro env σ hn hI
      obtain ⟨e, env1, σ1, h1, h2 | h2⟩ := round env σ hI
      · obtain ⟨rfl, hI1, hlt⟩ := h2
        obtain ⟨e2, env2, σ2, h3, h4⟩ := ih (μ env1 σ1) (hn ▸ hlt) env1 σ1 rfl hI1
        exact ⟨e2, env2, σ2, .more h1 h3, h4⟩
      · exact ⟨e, env1, σ1, .last h1 h2.1, h2.2⟩
  obtain ⟨e, env', σ', h1, h2⟩ := key _ env σ rfl h0
  exact ⟨e, env', σ', codeS_loop h1, h2⟩

/-- A loop by its rounds: the state is told by a value s of a type of one's own. -/
theorem W.loop_by {c : Code} {S : Type} (st : S → Env × Sto) (s0 : S) (I : S → Prop) (μ : S → Nat) (he : Env.le env (st s0).1) (hσ : σ.le (st s0).2) (h0 : I s0)
    (round : ∀ s, I s → W C ro nt c (fun e env' σ' => (e = .normal ∧ ∃ s', I s' ∧ μ s' < μ s ∧ Env.le env' (st s').1 ∧ σ'.le (st s').2) ∨ (e ≠ .normal ∧ Q e env' σ')) (st s).1 (st s).2) : W C ro nt (.loop c) Q env σ := by
  have key : ∀ n s, μ s = n → I s → ∃ e env' σ', LoopS C ro nt c (st s).1 (st s).2 e env' σ' ∧ Q e env' σ' := by
    intro n
    induction n using Nat.strongRecOn with
    | _ n ih =>
      intro s hn hI
      obtain ⟨e, env1, σ1, h1, h2 | h2⟩ := round s hI
      · obtain ⟨rfl, s', hI', hlt, hle, hsl⟩ := h2
        obtain ⟨e2, env2, σ2, h3, h4⟩ := ih (μ s') (hn ▸ hlt) s' rfl hI'
        exact ⟨e2, env2, σ2, .more (codeS_postS (codeS_post h1 hle) hsl) h3, h4⟩
      · exact ⟨e, env1, σ1, .last h1 h2.1, h2.2⟩
  obtain ⟨e, env', σ', h1, h2⟩ := key _ s0 rfl h0
  exact ⟨e, env', σ', codeS_pre he (codeS_preS hσ (codeS_loop h1)), h2⟩
end

def allP {α : Type} (p : α → Prop) : List α → Prop
  | [] => True
  | x :: xs => p x ∧ allP p xs
theorem allP_iff {α : Type} {p : α → Prop} : ∀ {l : List α}, allP p l → ∀ x ∈ l, p x
  | y :: l, h, x, hx => by
    rcases List.mem_cons.1 hx with rfl | hx
    · exact h.1
    · exact allP_iff h.2 x hx

/-- A function's contract from its body. -/
theorem call_of {C : Cx} {f : FuncId} {fn : Func} {c : Code} {args : List AV} {σ : Sto} {R : AV → Sto → Prop} (hb : Body C.P f fn c) (hl : args.length ≤ fn.ntmps)
    (h : W C none fn.ntmps c (fun e env' σ' => (e = .normal ∨ e = .ret) ∧ allP (resOK C fn.ntmps env' σ') fn.results.toList ∧ R (oneOr (fn.results.toList.map (resA C fn.ntmps env' σ'))) σ') (env0 args) σ) :
    ∃ r σ', CallS C f args σ r σ' ∧ R r σ' := by
  obtain ⟨e, env', σ', h1, h2, h3, h4⟩ := h
  exact ⟨_, σ', callS_of_body hb hl h1 h2 (allP_iff h3), h4⟩

/-- A PURE FUNCTION: from closed arguments a closed result, whatever the store. -/
structure PCall (C : Cx) (f : FuncId) (args : List AV) (r : AV) : Prop where
  here : ∃ fn c, Body C.P f fn c
  cl : ∀ x ∈ args, Closed x
  clr : Closed r
  call : ∃ σ', CallS C f args .none r σ'

/-- Of a ghost state, the cells that never change alone. -/
def Gh.only (G : Gh) : Gh := ⟨fun _ => none, G.I, fun _ => none⟩

theorem Inv.only {gl : Nat → List AV} {w0 w : World} {G : Gh} {σ : Sto} (h : Inv gl w0 G σ w) (hgl : ∀ g c, c ∈ gl g → Closed c) : Inv gl w0 G.only .none w where
  below := h.below
  imm := h.imm
  gl := fun g k c hc => (h.gl g k c hc).imp fun v hv => ⟨hv.1, hv.2.closed (fun _ _ _ x => x) (hgl g c (mem_of_get hc))⟩
  live := fun id o h => by cases h
  obj := fun id o B h => by cases h
  fresh := fun _ _ => rfl
  inj := fun id id' o o' B B' h => by cases h
  has := fun id o h => by cases h
  freshT := fun _ _ => rfl
  tok := ⟨fun id es n h => (by cases h), fun id id' b h => (by obtain ⟨_, _, _, _, h, _⟩ := h; cases h), fun id b h => (by obtain ⟨_, _, _, _, h, _⟩ := h; cases h)⟩

theorem PCall.callS {C : Cx} {f : FuncId} {args : List AV} {r : AV} (h : PCall C f args r) (σ : Sto) : CallS C f args σ r σ := by
  intro w0 G w V hi hV hrep
  obtain ⟨σ', hc⟩ := h.call
  refine (hc w0 G.only w V (hi.only C.glc) hV fun i x v h1 h2 => (hrep i x v h1 h2).closed (fun _ _ _ x => x) (h.cl x (mem_of_get h1))).mono ?_
  rintro e w' ⟨G', v, rfl, h1, h2, h3⟩
  have hkeep : ∀ b, b < w.heap.size → w'.heap[b]? = w.heap[b]? ∧ (∀ o, G'.I b o = G.I b o) := fun b hb => by
    obtain ⟨a1, a2, _⟩ := h3.keep b hb (by rintro (⟨id, o, B, h, _⟩ | ⟨id, _, _, _, _, h, _⟩) <;> cases h)
    exact ⟨a1, a2⟩
  have hle : G.le ⟨G.j, G'.I, G.T⟩ := ⟨fun _ _ x => x, fun b o v hv => h3.le.I b o v hv, Gh.same_T rfl⟩
  have hown : ∀ {b : Nat}, Own ⟨G.j, G'.I, G.T⟩ σ b → Own G σ b := fun h => h
  refine ⟨⟨G.j, G'.I, G.T⟩, v, rfl, h1.closed (fun _ _ _ x => x) h.clr, ?_, ?_⟩
  · exact {
      below := h2.below
      imm := h2.imm
      gl := fun g k c hc => (hi.gl g k c hc).imp fun v hv => ⟨hle.I _ _ _ hv.1, hv.2.mono hle⟩
      live := hi.live
      obj := fun id o B h1 h2 => by
        have hlt := (hi.obj id o B h1 h2).2.lt
        exact ⟨(hi.obj id o B h1 h2).1, (hi.obj id o B h1 h2).2.keep hle (hkeep _ hlt).1 (hkeep _ hlt).2⟩
      fresh := hi.fresh
      inj := hi.inj
      has := hi.has
      freshT := hi.freshT
      tok := hi.tok.step rfl (fun _ _ _ x => x) (fun id b hb => hkeep b (hi.tok.lt hb)) hi.tok.oj }
  · exact {
      le := hle
      size := h3.size
      keep := fun b hb ho => ⟨(hkeep b hb).1, (hkeep b hb).2, fun h => ho (hown h)⟩
      next := Nat.le_refl _ }

/-- A pure function's contract from its body. -/
theorem pcall_of {C : Cx} {f : FuncId} {fn : Func} {c : Code} {args : List AV} {r : AV} (hb : Body C.P f fn c) (hl : args.length ≤ fn.ntmps) (hcl : ∀ x ∈ args, Closed x) (hclr : Closed r)
    (h : W C none fn.ntmps c (fun e env' σ' => (e = .normal ∨ e = .ret) ∧ allP (resOK C fn.ntmps env' σ') fn.results.toList ∧ oneOr (fn.results.toList.map (resA C fn.ntmps env' σ')) = r) (env0 args) .none) : PCall C f args r := by
  obtain ⟨r', σ', h1, rfl⟩ := call_of (R := fun x _ => x = r) hb hl h
  exact ⟨⟨fn, c, hb⟩, hcl, hclr, σ', h1⟩

theorem callR_pure {C : Cx} {ρ : Operand → AV} {σ : Sto} {cl : Call} {K : AV → Sto → Prop} {f : Operand} {g : FuncId} {args : List AV} {r : AV}
    (h : PCall C g args r) (hc : cl.callee = .value f) (hf : ρ f = .fn g []) (ha : cl.args.toList.map ρ = args) (hk : K r σ) : callR C ρ σ (.call cl) K := by
  obtain ⟨fn, c, hb⟩ := h.here
  refine ⟨r, σ, fun o ho => opStep_call (f := f) (as := cl.args) (ts := cl.argTypes) (by rw [ho, ← hc]) hf hb ?_, hk⟩
  rw [ha, List.append_nil]
  exact h.callS σ

theorem callK_pure {C : Cx} {nt : Nat} {d : Option Nat} {cl : Call} {rs : List RO} {K : Env → Sto → Prop} {env : Env} {σ : Sto} {f : Operand} {g : FuncId} {args : List AV} {r : AV}
    (h : PCall C g args r) (hc : cl.callee = .value f) (hf : ev C nt env f = .fn g []) (ha : cl.args.toList.map (ev C nt env) = args) (hk : wpr C nt rs K (putA env d r) σ) : callK C nt d cl rs K env σ :=
  callR_pure h hc hf ha hk

theorem callR_gen {C : Cx} {ρ : Operand → AV} {σ σ1 : Sto} {cl : Call} {K : AV → Sto → Prop} {f : Operand} {g : FuncId} {caps args : List AV} {r : AV} {fn : Func} {c : Code} (hb : Body C.P g fn c)
    (h : CallS C g (args ++ caps) σ r σ1) (hc : cl.callee = .value f) (hf : ρ f = .fn g caps) (ha : cl.args.toList.map ρ = args) (hk : K r σ1) : callR C ρ σ (.call cl) K := by
  refine ⟨r, σ1, fun o ho => opStep_call (f := f) (as := cl.args) (ts := cl.argTypes) (by rw [ho, ← hc]) hf hb ?_, hk⟩
  rw [ha]; exact h

theorem callK_gen {C : Cx} {nt : Nat} {d : Option Nat} {cl : Call} {rs : List RO} {K : Env → Sto → Prop} {env : Env} {σ σ1 : Sto} {f : Operand} {g : FuncId} {caps args : List AV} {r : AV} {fn : Func} {c : Code} (hb : Body C.P g fn c)
    (h : CallS C g (args ++ caps) σ r σ1) (hc : cl.callee = .value f) (hf : ev C nt env f = .fn g caps) (ha : cl.args.toList.map (ev C nt env) = args) (hk : wpr C nt rs K (putA env d r) σ1) : callK C nt d cl rs K env σ :=
  callR_gen hb h hc hf ha hk

/-! ### Code, without what is said for the reader -/
inductive K where
  | reg (ros : List RO)
  | seq (a b : K)
  | cond (c : Operand) (x y : K)
  | block (id : Nat) (k : K)
  | loop (k : K)
  | exit (id : Nat)
  | ret
  | skip
  | label (l : Nat)
  | oth (c : Code)

def toK : Code → K
  | .region id ops d => match d with | false => .reg (ops.toList.map (roOf ops)) | true => .oth (.region id ops true)
  | .seq a b => .seq (toK a) (toK b)
  | .cond c x y => .cond c (toK x) (toK y)
  | .block id c => .block id (toK c)
  | .loop c => .loop (toK c)
  | .exit id => .exit id
  | .ret => .ret
  | .skip => .skip
  | .label l => .label l
  | c => .oth c

/-- As W, of whatever code is so. -/
def WK (C : Cx) (ro : Option Nat) (nt : Nat) (k : K) (Q : Exit → Env → Sto → Prop) (env : Env) (σ : Sto) : Prop := ∀ c, toK c = k → W C ro nt c Q env σ

def andK (C : Cx) (ro : Option Nat) (nt : Nat) (y : K) (Q : Exit → Env → Sto → Prop) : Exit → Env → Sto → Prop
  | .normal => WK C ro nt y Q
  | e => Q e

section
variable {C : Cx} {ro : Option Nat} {nt : Nat} {Q : Exit → Env → Sto → Prop} {env : Env} {σ : Sto}

theorem W.of {c : Code} (h : WK C ro nt (toK c) Q env σ) : W C ro nt c Q env σ := h c rfl

theorem WK.mono {k : K} {Q' : Exit → Env → Sto → Prop} (h : WK C ro nt k Q env σ) (hq : ∀ e env σ, Q e env σ → Q' e env σ) : WK C ro nt k Q' env σ := fun c hc => (h c hc).mono hq

theorem WK.seq {x y : K} (h : WK C ro nt x (andK C ro nt y Q) env σ) : WK C ro nt (.seq x y) Q env σ := by
  intro c hc
  cases c with
  | seq a b =>
    simp only [toK, K.seq.injEq] at hc
    refine W.seq ((h a hc.1).mono fun e env σ hq => ?_)
    cases e with
    | normal => exact hq b hc.2
    | _ => exact hq
  | region id ops d => cases d <;> cases hc
  | _ => cases hc

theorem WK.reg {ros : List RO} (h : wpr C nt ros (fun env σ => Q .normal env σ) env σ) : WK C ro nt (.reg ros) Q env σ := by
  intro c hc
  cases c with
  | region id ops d =>
    cases d with
    | false =>
      simp only [toK, K.reg.injEq] at hc
      subst hc
      exact W.region h
    | true => cases hc
  | _ => cases hc

theorem WK.cond {c : Operand} {x y : K} (b : Bool) (hc : ev C nt env c = .bool b) (ht : b = true → WK C ro nt x Q env σ) (hf : b = false → WK C ro nt y Q env σ) : WK C ro nt (.cond c x y) Q env σ := by
  intro d hd
  cases d with
  | cond c' a b' =>
    simp only [toK, K.cond.injEq] at hd
    obtain ⟨rfl, h1, h2⟩ := hd
    exact W.cond b hc (fun h => ht h a h1) (fun h => hf h b' h2)
  | region id ops d => cases d <;> cases hd
  | _ => cases hd

theorem WK.block {id : Nat} {k : K} (h : WK C ro nt k (fun e => Q (inBlk id e)) env σ) : WK C ro nt (.block id k) Q env σ := by
  intro d hd
  cases d with
  | block id' a =>
    simp only [toK, K.block.injEq] at hd
    obtain ⟨rfl, h1⟩ := hd
    exact W.block (h a h1)
  | region id ops d => cases d <;> cases hd
  | _ => cases hd

theorem WK.exit {id : Nat} (h : Q (.exit id) env σ) : WK C ro nt (.exit id) Q env σ := by
  intro d hd
  cases d with
  | exit id' => simp only [toK, K.exit.injEq] at hd; subst hd; exact W.exit h
  | region id ops d => cases d <;> cases hd
  | _ => cases hd
theorem WK.ret (h : Q .ret env σ) : WK C ro nt .ret Q env σ := by
  intro d hd
  cases d with
  | ret => exact W.ret h
  | region id ops d => cases d <;> cases hd
  | _ => cases hd
theorem WK.skip (h : Q .normal env σ) : WK C ro nt .skip Q env σ := by
  intro d hd
  cases d with
  | skip => exact W.skip h
  | region id ops d => cases d <;> cases hd
  | _ => cases hd
theorem WK.label {l : Nat} (h : Q .normal env σ) : WK C ro nt (.label l) Q env σ := by
  intro d hd
  cases d with
  | label l' => exact W.label h
  | region id ops d => cases d <;> cases hd
  | _ => cases hd

theorem WK.drop {k : K} (σ1 : Sto) (hl : σ.le σ1) (h : WK C ro nt k Q env σ1) : WK C ro nt k Q env σ := fun c hc => by
  obtain ⟨e, env2, σ2, h1, h2⟩ := h c hc
  exact ⟨e, env2, σ2, codeS_preS hl h1, h2⟩

theorem WK.forget {k : K} (env1 : Env) (hl : Env.le env env1) (h : WK C ro nt k Q env1 σ) : WK C ro nt k Q env σ := fun c hc => (h c hc).forget env1 hl

/-- A loop by its rounds: the state is told by a value s of a type of one's own. -/
theorem WK.loop {k : K} {S : Type} (st : S → Env × Sto) (s0 : S) (I : S → Prop) (μ : S → Nat) (he : Env.le env (st s0).1) (hσ : σ.le (st s0).2) (h0 : I s0)
    (round : ∀ s, I s → WK C ro nt k (fun e env' σ' => (e = .normal ∧ ∃ s', I s' ∧ μ s' < μ s ∧ Env.le env' (st s').1 ∧ σ'.le (st s').2) ∨ (e ≠ .normal ∧ Q e env' σ')) (st s).1 (st s).2) : WK C ro nt (.loop k) Q env σ := by
  intro d hd
  cases d with
  | loop a =>
    simp only [toK, K.loop.injEq] at hd
    exact W.loop_by st s0 I μ he hσ h0 fun s hs => round s hs a hd
  | region id ops d => cases d <;> cases hd
  | _ => cases hd
end

theorem andK_normal {C : Cx} {ro : Option Nat} {nt : Nat} {y : K} {Q : Exit → Env → Sto → Prop} {env : Env} {σ : Sto} : andK C ro nt y Q .normal env σ = WK C ro nt y Q env σ := (rfl)
theorem andK_exit {C : Cx} {ro : Option Nat} {nt : Nat} {y : K} {Q : Exit → Env → Sto → Prop} {env : Env} {σ : Sto} {id : Nat} : andK C ro nt y Q (.exit id) env σ = Q (.exit id) env σ := (rfl)
theorem andK_ret {C : Cx} {ro : Option Nat} {nt : Nat} {y : K} {Q : Exit → Env → Sto → Prop} {env : Env} {σ : Sto} : andK C ro nt y Q .ret env σ = Q .ret env σ := (rfl)
theorem inBlk_normal {id : Nat} : inBlk id .normal = .normal := (rfl)
theorem inBlk_ret {id : Nat} : inBlk id .ret = .ret := (rfl)
theorem inBlk_exit {id id' : Nat} : inBlk id (.exit id') = if id' = id then .normal else .exit id' := (rfl)

theorem pick_and (a b : Bool) : (if a = true then AV.bool b else AV.bool false) = .bool (a && b) := by cases a <;> rfl
theorem pick_or (a b : Bool) : (if a = true then AV.bool true else AV.bool b) = .bool (a || b) := by cases a <;> rfl

theorem upd_eq (env : Env) (d : Nat) (v : AV) (t : Nat) : upd env d v t = if t = d then v else env t := (rfl)

/-- A result that lies in a variable. -/
def okCell (p : AV) (i : Option TyI) (σ : Sto) : Prop :=
  match p, i with
  | .ptr id k, some i => (match σ.get id with | some (.box cs) => rdOK i cs k | _ => False)
  | _, _ => False
/-- What lies in a variable. -/
def rdCell (p : AV) (i : Option TyI) (σ : Sto) : AV :=
  match p, i with
  | .ptr id k, some i => rdC i (boxCells σ id) k
  | _, _ => .undef
theorem resA_tmp {C : Cx} {nt : Nat} {env : Env} {σ : Sto} {t : Nat} : resA C nt env σ (.tmp t) = ev C nt env (.tmp t) := (rfl)
theorem resA_cell {C : Cx} {nt : Nat} {env : Env} {σ : Sto} {a t : Nat} : resA C nt env σ (.cell a t) = rdCell (ev C nt env (.tmp a)) (C.ty t) σ := (rfl)
theorem okCell_ptr {id k : Nat} {i : TyI} {σ : Sto} : okCell (.ptr id k) (some i) σ = (match σ.get id with | some (.box cs) => rdOK i cs k | _ => False) := (rfl)
theorem rdCell_ptr {id k : Nat} {i : TyI} {σ : Sto} : rdCell (.ptr id k) (some i) σ = rdC i (boxCells σ id) k := (rfl)
theorem resOK_tmp {C : Cx} {nt : Nat} {env : Env} {σ : Sto} {t : Nat} : resOK C nt env σ (.tmp t) = True := (rfl)
theorem resOK_cell {C : Cx} {nt : Nat} {env : Env} {σ : Sto} {a t : Nat} : resOK C nt env σ (.cell a t) = okCell (ev C nt env (.tmp a)) (C.ty t) σ := by
  simp only [resOK, okCell]
  refine propext ⟨?_, fun h => ?_⟩
  · rintro ⟨id, k, i, cs, h1, h2, h3, h4⟩
    simp only [h1, h2, h3, h4]
  · split at h
    · rename_i id k i h1 h2
      split at h
      · rename_i cs h3
        exact ⟨id, k, i, cs, h1, h2, h3, h⟩
      · exact h.elim
    · exact h.elim

/-- An append, what is behind it kept closed. -/
def appK (C : Cx) (nt : Nat) (d : Option Nat) (as : Array Operand) (ts : Array TypeId) (rs : List RO) (K : Env → Sto → Prop) (env : Env) (σ : Sto) : Prop := wpr C nt (⟨d, .call ⟨.builtin .append, as, ts⟩, none⟩ :: rs) K env σ

/-- An answer, and then K. -/
def runR (C : Cx) (nt : Nat) (d : Option Nat) (r : AR) (rs : List RO) (K : Env → Sto → Prop) (env : Env) : Prop := r.c ∧ wpr C nt rs K (putA env d r.v) r.s
theorem runR_eq {C : Cx} {nt : Nat} {d : Option Nat} {c : Prop} {v : AV} {s : Sto} {rs : List RO} {K : Env → Sto → Prop} {env : Env} : runR C nt d ⟨c, v, s⟩ rs K env = (c ∧ wpr C nt rs K (putA env d v) s) := (rfl)
section
variable {C : Cx} {nt : Nat} {d : Option Nat} {rs : List RO} {K : Env → Sto → Prop} {env : Env} {σ : Sto}
theorem wpr_omove (x : Operand) : wpr C nt (⟨d, .move x, none⟩ :: rs) K env σ = runR C nt d (⟨True, (ev C nt env) x, σ⟩) rs K env := wpr_op rfl
theorem wpr_oassign (x : Operand) : wpr C nt (⟨d, .assign x, none⟩ :: rs) K env σ = runR C nt d (⟨True, (ev C nt env) x, σ⟩) rs K env := wpr_op rfl
theorem wpr_opick (c x y : Operand) : wpr C nt (⟨d, .pick c x y, none⟩ :: rs) K env σ = runR C nt d (⟨(ev C nt env c).isBool = true, if (ev C nt env c).theB = true then (ev C nt env) x else (ev C nt env) y, σ⟩) rs K env := wpr_op rfl
theorem wpr_obox (t : TypeId) (x : Operand) : wpr C nt (⟨d, .box t x, none⟩ :: rs) K env σ = runR C nt d (⟨(ev C nt env x).def = true, .ptr σ.next 0, σ.add (.box (ev C nt env x).cells)⟩) rs K env := wpr_op rfl
theorem wpr_oalloc (t : TypeId) : wpr C nt (⟨d, .alloc t, none⟩ :: rs) K env σ = runR C nt d (allocA σ (C.ty t)) rs K env := wpr_op rfl
theorem wpr_oload (t : TypeId) (x : Operand) : wpr C nt (⟨d, .load t x, none⟩ :: rs) K env σ = runR C nt d (match C.ty t with | some i => loadA i σ (ev C nt env x) | none => bad σ) rs K env := wpr_op rfl
theorem wpr_ostore (t : TypeId) (x y : Operand) : wpr C nt (⟨d, .store t x y, none⟩ :: rs) K env σ = runR C nt d (match C.ty t with | some i => storeA i σ (ev C nt env x) (ev C nt env y) | none => bad σ) rs K env := wpr_op rfl
theorem wpr_ofieldAddr (t : TypeId) (x : Operand) (f : Nat) : wpr C nt (⟨d, .fieldAddr t x f, none⟩ :: rs) K env σ = runR C nt d (faA σ (fldE C t f) (ev C nt env x)) rs K env := wpr_op rfl
theorem wpr_ofield (t : TypeId) (x : Operand) (f : Nat) : wpr C nt (⟨d, .field t x f, none⟩ :: rs) K env σ = runR C nt d (fldA σ (fldE C t f) (ev C nt env x)) rs K env := wpr_op rfl
theorem wpr_oindexAddr (t : TypeId) (x ix : Operand) : wpr C nt (⟨d, .indexAddr t x ix, none⟩ :: rs) K env σ = runR C nt d (idxA C σ t (ev C nt env x) (ev C nt env ix)) rs K env := wpr_op rfl
theorem wpr_oindex (t : TypeId) (x ix : Operand) : wpr C nt (⟨d, .index t x ix, none⟩ :: rs) K env σ = runR C nt d (ixvA C σ t (ev C nt env x) (ev C nt env ix)) rs K env := wpr_op rfl
theorem wpr_oextract (x : Operand) (k : Nat) : wpr C nt (⟨d, .extract x k, none⟩ :: rs) K env σ = runR C nt d (extA σ (ev C nt env x) k) rs K env := wpr_op rfl
theorem wpr_obinOp (op : BinOp) (t : TypeId) (x y : Operand) (t' : TypeId) : wpr C nt (⟨d, .binOp op t x y t', none⟩ :: rs) K env σ = runR C nt d (binA C σ op t (ev C nt env x) (ev C nt env y)) rs K env := wpr_op rfl
theorem wpr_ounOp (op : UnOp) (t : TypeId) (x : Operand) : wpr C nt (⟨d, .unOp op t x, none⟩ :: rs) K env σ = runR C nt d (unA σ op (ev C nt env x)) rs K env := wpr_op rfl
theorem wpr_onilCheck (x : Operand) : wpr C nt (⟨d, .nilCheck x, none⟩ :: rs) K env σ = runR C nt d (⟨(ev C nt env x).isAddr = true ∨ (ev C nt env x).isFn = true, (ev C nt env) x, σ⟩) rs K env := wpr_op rfl
theorem wpr_omakeFunc (f : Fn) (first cap : Array Operand) : wpr C nt (⟨d, .makeFunc f first cap, none⟩ :: rs) K env σ = runR C nt d (mkfA (ev C nt env) σ f first.toList cap.toList) rs K env := wpr_op rfl
theorem wpr_oconvert (s' d' : TypeId) (x : Operand) : wpr C nt (⟨d, .convert s' d' x, none⟩ :: rs) K env σ = runR C nt d (cnvA C σ s' d' (ev C nt env x)) rs K env := wpr_op rfl
theorem wpr_otypeAssert (x : Operand) (t' t : TypeId) (ok : Bool) : wpr C nt (⟨d, .typeAssert x t' t ok, none⟩ :: rs) K env σ = runR C nt d (tasA C σ t ok (ev C nt env x)) rs K env := wpr_op rfl
theorem wpr_omakeInterface (t : TypeId) (x : Operand) : wpr C nt (⟨d, .makeInterface t x, none⟩ :: rs) K env σ = runR C nt d (ifaceA C σ t (ev C nt env x)) rs K env := wpr_op rfl
theorem wpr_obuild (t : TypeId) (ps : Array (Nat × Operand)) : wpr C nt (⟨d, .build t ps, none⟩ :: rs) K env σ = runR C nt d (bldA σ (bldE C t) (ps.toList.map fun p => (p.1, (ev C nt env) p.2))) rs K env := wpr_op rfl
theorem wpr_obuildSlice (t : TypeId) (n : Nat) (ps : Array (Nat × Operand)) : wpr C nt (⟨d, .buildSlice t n ps, none⟩ :: rs) K env σ = runR C nt d (bslA σ (slE C t) n (ps.toList.map fun p => (p.1, (ev C nt env) p.2))) rs K env := wpr_op rfl
theorem wpr_oslice (t : TypeId) (x : Operand) (lo hi : Option Operand) : wpr C nt (⟨d, .slice t x lo hi none, none⟩ :: rs) K env σ = runR C nt d (slcA C (ev C nt env) σ t (ev C nt env x) lo hi) rs K env := wpr_op rfl
theorem wpr_omakeSlice (t : TypeId) (x y : Operand) : wpr C nt (⟨d, .makeSlice t x y, none⟩ :: rs) K env σ = runR C nt d (mkslA C σ t (ev C nt env x) (ev C nt env y)) rs K env := wpr_op rfl
theorem wpr_omakeMap (t : TypeId) (r : Option Operand) : wpr C nt (⟨d, .makeMap t r, none⟩ :: rs) K env σ = runR C nt d (mkmA σ r) rs K env := wpr_op rfl
theorem wpr_olookup (t : TypeId) (x k : Operand) (ok : Bool) : wpr C nt (⟨d, .lookup t x k ok, none⟩ :: rs) K env σ = runR C nt d (lkpA C σ t (ev C nt env x) (ev C nt env k) ok) rs K env := wpr_op rfl
theorem wpr_omapUpdate (t : TypeId) (x k y : Operand) : wpr C nt (⟨d, .mapUpdate t x k y, none⟩ :: rs) K env σ = runR C nt d (mupA C σ t (ev C nt env x) (ev C nt env k) (ev C nt env y)) rs K env := wpr_op rfl
theorem wpr_oinsert (t : TypeId) (x k y : Operand) : wpr C nt (⟨d, .insert t x k y, none⟩ :: rs) K env σ = runR C nt d (mupA C σ t (ev C nt env x) (ev C nt env k) (ev C nt env y)) rs K env := wpr_op rfl
theorem wpr_olen (as : Array Operand) (ts : Array TypeId) : wpr C nt (⟨d, .call ⟨.builtin .len, as, ts⟩, none⟩ :: rs) K env σ = runR C nt d (bltA C (ev C nt env) σ .len as.toList ts.toList) rs K env := wpr_op rfl
theorem wpr_omax (as : Array Operand) (ts : Array TypeId) : wpr C nt (⟨d, .call ⟨.builtin .max, as, ts⟩, none⟩ :: rs) K env σ = runR C nt d (bltA C (ev C nt env) σ .max as.toList ts.toList) rs K env := wpr_op rfl
theorem wpr_omin (as : Array Operand) (ts : Array TypeId) : wpr C nt (⟨d, .call ⟨.builtin .min, as, ts⟩, none⟩ :: rs) K env σ = runR C nt d (bltA C (ev C nt env) σ .min as.toList ts.toList) rs K env := wpr_op rfl
theorem wpr_oapp (as : Array Operand) (ts : Array TypeId) : wpr C nt (⟨d, .call ⟨.builtin .append, as, ts⟩, none⟩ :: rs) K env σ = appK C nt d as ts rs K env σ := (rfl)
end

theorem Sto.get_none (i : Nat) : Sto.none.get i = Option.none := (rfl)
theorem Sto.next_none : Sto.none.next = 0 := (rfl)
theorem Sto.get_add (σ : Sto) (o : AObj) (i : Nat) : (σ.add o).get i = if i = σ.next then some o else σ.get i := (rfl)
theorem Sto.next_add (σ : Sto) (o : AObj) : (σ.add o).next = σ.next + 1 := (rfl)
theorem Sto.get_set (σ : Sto) (id : Nat) (o : AObj) (i : Nat) : (σ.set id o).get i = if i = id then some o else σ.get i := (rfl)
theorem Sto.next_set (σ : Sto) (id : Nat) (o : AObj) : (σ.set id o).next = σ.next := (rfl)
theorem Sto.get_del (σ : Sto) (id : Nat) (i : Nat) : (σ.del id).get i = if i = id then Option.none else σ.get i := (rfl)
theorem Sto.next_del (σ : Sto) (id : Nat) : (σ.del id).next = σ.next := (rfl)
theorem Sto.set_set (σ : Sto) (id : Nat) (o o' : AObj) : (σ.set id o).set id o' = σ.set id o' := by
  simp only [Sto.set, Sto.mk.injEq, and_true]; funext i; split <;> rfl
theorem Sto.set_add (σ : Sto) (o o' : AObj) : (σ.add o).set σ.next o' = σ.add o' := by
  simp only [Sto.set, Sto.add, Sto.mk.injEq, and_true]; funext i; split <;> rfl
theorem ofV_bool (b : Bool) : ofV (.bool b) = .bool b := rfl
theorem ofV1_bool (b : Bool) : ofV1 (.bool b) = .bool b := rfl
theorem ofV_int (k : IntKind) (n : Int) : ofV (.int k n) = .int k n := rfl
theorem ofV1_int (k : IntKind) (n : Int) : ofV1 (.int k n) = .int k n := rfl
theorem ofV_str (s : ByteArray) : ofV (.string s) = .str s := rfl
theorem ofV1_str (s : ByteArray) : ofV1 (.string s) = .str s := rfl
theorem ofV_sl  : ofV (.slice none 0 0) = .list true [] := rfl
theorem ofV1_sl  : ofV1 (.slice none 0 0) = .list true [] := rfl
theorem ofV_ptr  : ofV (.pointer none) = .nilp := rfl
theorem ofV1_ptr  : ofV1 (.pointer none) = .nilp := rfl
theorem ofV_map  : ofV (.map none) = .nilm := rfl
theorem ofV1_map  : ofV1 (.map none) = .nilm := rfl
theorem ofV_if  : ofV (.nilIface) = .nili := rfl
theorem ofV1_if  : ofV1 (.nilIface) = .nili := rfl
theorem ofV_fn  : ofV (.nilFunc) = .nilf := rfl
theorem ofV1_fn  : ofV1 (.nilFunc) = .nilf := rfl
theorem shp_bool (b : Bool) : (AV.bool b).shp = .bool false := (rfl)
theorem shp_int (k : IntKind) (n : Int) : (AV.int k n).shp = .int k 0 := (rfl)
theorem shp_str (s : ByteArray) : (AV.str s).shp = .str ByteArray.empty := (rfl)
theorem shp_agg (cs : List AV) : (AV.agg cs).shp = .agg (cs.map AV.shp1) := (rfl)
theorem pvs_bool (b : Bool) : (AV.bool b).pv.isSome = true := (rfl)
theorem pvs_int (k : IntKind) (n : Int) : (AV.int k n).pv.isSome = true := (rfl)
theorem pvs_str (s : ByteArray) : (AV.str s).pv.isSome = true := (rfl)
def isPl1 : AV → Bool
  | .bool _ | .int _ _ | .str _ => true
  | _ => false
theorem pv_isPl1 {a : AV} (h : isPl1 a = true) : a.pv1.isSome = true := by cases a <;> first | rfl | cases h
theorem pvL_isPl : ∀ {cs : List AV}, cs.all isPl1 = true → (AV.pvL cs).isSome = true
  | [], _ => rfl
  | a :: l, h => by
    simp only [List.all_cons, Bool.and_eq_true] at h
    obtain ⟨v, hv⟩ := Option.isSome_iff_exists.1 (pv_isPl1 h.1)
    obtain ⟨vs, hvs⟩ := Option.isSome_iff_exists.1 (pvL_isPl h.2)
    simp [AV.pvL, hv, hvs]
theorem pvs_agg {cs : List AV} (h : cs.all isPl1 = true) : (AV.agg cs).pv.isSome = true := by
  simp only [AV.pv, Option.isSome_map]; exact pvL_isPl h
theorem keyOK_int' {C : Cx} {t : TypeId} {k : IntKind} (h : intT C t = some k) : KeyOK C t (.int k 0) = True := by
  obtain ⟨ti, h1, h2⟩ := intT_some h
  exact eq_true (keyOK_int h1 h2)
theorem keyOK_bool' {C : Cx} {t : TypeId} (h : isBoolT C t = true) : KeyOK C t (.bool false) = True := by
  obtain ⟨ti, h1, h2⟩ := isBoolT_some h
  exact eq_true (keyOK_bool h1 h2)
theorem keyOK_str' {C : Cx} {t : TypeId} (h : isStrT C t = true) : KeyOK C t (.str ByteArray.empty) = True := by
  obtain ⟨ti, h1, h2⟩ := isStrT_some h
  exact eq_true (keyOK_str h1 h2)
theorem peq_int {k q : IntKind} {n m : Int} : (AV.int k n).peq (.int q m) = (n == m) := (rfl)
theorem peq_str {n m : ByteArray} : (AV.str n).peq (.str m) = (n == m) := (rfl)
theorem peq_bool {n m : Bool} : (AV.bool n).peq (.bool m) = (n == m) := (rfl)
theorem peq_agg {n m : List AV} : (AV.agg n).peq (.agg m) = peqL n m := (rfl)
theorem allE_nil {s : AV} : (∀ e ∈ ([] : List (AV × AV)), e.1.shp = s) = True := eq_true fun e h => by cases h
theorem allE_cons {s : AV} {a : AV × AV} {es : List (AV × AV)} : (∀ e ∈ a :: es, e.1.shp = s) = (a.1.shp = s ∧ ∀ e ∈ es, e.1.shp = s) := by simp only [List.mem_cons, forall_eq_or_imp]
attribute [go_sem] wpr_omakeMap wpr_olookup wpr_omapUpdate wpr_oinsert lkpA mupA mkmA lookA shp_bool shp_int shp_str shp_agg pvs_bool pvs_int pvs_str pvs_agg isPl1 keyOK_int' keyOK_bool' keyOK_str' peq_int peq_str peq_bool peq_agg peq1 peqL AV.shp1 allE_nil allE_cons
theorem ofV_agg (cs : Array Value) : ofV (.agg cs) = .agg (cs.toList.map ofV1) := rfl
attribute [go_sem] resOK_tmp resOK_cell okCell_ptr rdCell_ptr resA_tmp resA_cell allP or_true true_or or_false false_or runR_eq wpr_omove wpr_oassign wpr_opick wpr_obox wpr_oalloc wpr_oload wpr_ostore wpr_ofieldAddr wpr_ofield wpr_oindexAddr wpr_oindex wpr_oextract wpr_obinOp wpr_ounOp wpr_onilCheck wpr_omakeFunc wpr_oconvert wpr_omakeInterface wpr_otypeAssert wpr_obuild wpr_obuildSlice wpr_oslice wpr_omakeSlice wpr_olen wpr_omax wpr_omin wpr_oapp
attribute [go_sem] wr List.nil_append List.cons_append List.append_nil wpr_nil wpr_call wpr_gd gdW_tt gdW_ff gdW_tf gdW_ft gdW_skp ev env0 putA upd_eq loadA storeA lenA mxA mnA bltA appA srcA idxA ixvA binA unA cnvA tasA slcA mkslA fldA faA extA bldA bslA allocA mkfA ifaceA fillA fillL
  AV.isBool AV.theB AV.isInt AV.theI AV.isAddr AV.isFn AV.def AV.cells AV.one AV.shift ofV_bool ofV_int ofV_str ofV_sl ofV_ptr ofV_map ofV_if ofV_fn ofV_agg ofV1_bool ofV1_int ofV1_str ofV1_sl ofV1_ptr ofV1_map ofV1_if ofV1_fn aInt aStr Sto.get_none Sto.next_none Sto.get_add Sto.next_add Sto.get_set Sto.next_set Sto.get_del Sto.next_del Sto.set_add Sto.set_set okI valI andK_normal andK_exit andK_ret inBlk_normal inBlk_ret inBlk_exit oneOr boxCells pick_and pick_or
  Bool.false_eq_true if_true if_false and_true true_and List.map_cons List.map_nil List.length_cons List.length_nil List.getD_cons_zero List.getD_cons_succ List.drop_zero List.drop_succ_cons List.take_succ_cons List.take_zero List.all_cons List.all_nil Bool.and_true Bool.true_and
  beq_self_eq_true roOf List.getElem?_toArray List.getElem?_cons_zero List.getElem?_cons_succ Option.bind_some List.toList_toArray

end Go.Lg
