/- Lg, part H: code, calls and functions. -/
import Derived.Test.YtndchmmclfidgaaDoorLgG
import Derived.RangeFuncLeaves
import Derived.RangeFuncRecord
set_option linter.unusedVariables false
set_option linter.unusedSimpArgs false
namespace Go.Lg
open Go.RowKit

/-- The fence that lets everything in; ro: the loop over a function in whose round the code stands. -/
def FW (ro : Option Nat) : Fence := { Fence.wide with round := ro }

structure Rel (C : Cx) (w0 : World) (G : Gh) (nt : Nat) (env : Env) (σ : Sto) (a : Act) (w : World) : Prop where
  inv : Inv C.gl w0 G σ w
  env : EnvRep G nt env a.tmps

def mk (r : Nat) : Deferred := { target := .collected r, args := #[] }
structure Marks (G : Gh) (σ : Sto) (w : World) (lo : Nat) (ms : List Nat) : Prop where
  nd : ms.Nodup
  ok : ∀ r ∈ ms, lo ≤ r ∧ w.heap[r]? = some (.deferred (some [])) ∧ ¬ Own G σ r

theorem Marks.nil {G : Gh} {σ : Sto} {w : World} {lo : Nat} : Marks G σ w lo [] := ⟨.nil, fun r h => by cases h⟩
theorem Marks.ext {G G' : Gh} {σ σ' : Sto} {w w' : World} {lo : Nat} {ms : List Nat} (h : Marks G σ w lo ms) (e : Ext G σ w G' σ' w') : Marks G' σ' w' lo ms :=
  ⟨h.nd, fun r hr => by
    obtain ⟨h1, h2, h3⟩ := h.ok r hr
    obtain ⟨k1, _, k3⟩ := e.keep r (Array.getElem?_eq_some_iff.1 h2).1 h3
    exact ⟨h1, k1.trans h2, k3⟩⟩
theorem Marks.append {G : Gh} {σ : Sto} {w : World} {lo mid : Nat} {ms ns : List Nat} (h : Marks G σ w lo ms) (k : Marks G σ w mid ns) (hm : ∀ r ∈ ms, r < mid) (hl : lo ≤ mid) : Marks G σ w lo (ns ++ ms) :=
  ⟨List.nodup_append.2 ⟨k.nd, h.nd, fun a ha b hb => by have := (k.ok a ha).1; have := hm b hb; omega⟩, fun r hr => by
    rcases List.mem_append.1 hr with hr | hr
    · obtain ⟨k1, k2, k3⟩ := k.ok r hr; exact ⟨Nat.le_trans hl k1, k2, k3⟩
    · exact h.ok r hr⟩

/-- In whose round a code stands: the loop's object, its block. -/
def RoOK (G : Gh) : Option Nat → Option Nat → Prop
  | none, none => True
  | some id, some l => ∃ B, G.j id = some B ∧ B.b = l
  | _, _ => False
theorem RoOK.mono {G G' : Gh} {ro cr : Option Nat} (h : RoOK G ro cr) (le : G.le G') : RoOK G' ro cr := by
  cases ro <;> cases cr <;> simp only [RoOK] at h ⊢
  obtain ⟨B, h1, h2⟩ := h
  exact ⟨B, le.j _ _ h1, h2⟩

/-- What code does: it comes, from related states, to related states, by this exit. -/
def CodeS (C : Cx) (ro : Option Nat) (nt : Nat) (c : Code) (env : Env) (σ : Sto) (e : Exit) (env' : Env) (σ' : Sto) : Prop :=
  ∀ w0 G a w, Rel C w0 G nt env σ a w → ∀ cr, RoOK G ro cr → c.wpIn (FW cr) 0 C.P (fun e2 a' w' => e2 = e ∧ ∃ G' ms, Rel C w0 G' nt env' σ' a' w' ∧ Ext G σ w G' σ' w' ∧ a'.defers = ms.map mk ++ a.defers ∧ Marks G' σ' w' w.heap.size ms) a w

/-- What one operation does. -/
def OpStep (C : Cx) (o : Oper) (ρ : Operand → AV) (σ : Sto) (v : AV) (σ' : Sto) : Prop :=
  ∀ ro w0 G a w, Inv C.gl w0 G σ w → (∀ x ∈ o.op.operands.toList, Rep G (ρ x) (Act.eval a x)) → ∀ (next : Act → World → Prop) (Q : Exit → Act → World → Prop),
    (∀ G' v' w', Rep G' v v' → Inv C.gl w0 G' σ' w' → Ext G σ w G' σ' w' → next (a.put o.dst v') w') → o.wpIn (FW ro) 0 C.P a w next Q

/-- What a call of a function does. -/
def CallS (C : Cx) (f : FuncId) (args : List AV) (σ : Sto) (r : AV) (σ' : Sto) : Prop :=
  ∀ w0 G w (V : Array Value), Inv C.gl w0 G σ w → V.size = args.length → (∀ (i : Nat) (x : AV) (v : Value), args[i]? = some x → V[i]? = some v → Rep G x v) →
    CallsIn Fence.wide 0 C.P f V w fun e w' => ∃ G' v, e = .returned v ∧ Rep G' r v ∧ Inv C.gl w0 G' σ' w' ∧ Ext G σ w G' σ' w'

theorem callsIn_round {P : Program} {f : FuncId} {V : Array Value} {w : World} {R : Ending → World → Prop} (ro : Option Nat) (n : Nat) (h : CallsIn Fence.wide 0 P f V w R) : CallsIn (FW ro) n P f V w R :=
  ⟨trivial, fun cs _ => h.2 cs (fun d hd => by cases hd)⟩

theorem opStep_of_snd {C : Cx} {o : Oper} {ρ : Operand → AV} {σ : Sto} {r : AR} (h : Snd C o ρ σ r) (hc : r.c) (hd : ∀ c, o.op ≠ .defer c) : OpStep C o ρ σ r.v r.s := by
  intro ro w0 G a w hi hx next Q hn
  obtain ⟨G', nx, v', w', hrun, hnx, hr, hi', he⟩ := h hc w0 G a w hi hx
  refine ⟨fun _ _ => trivial, ?_⟩
  rw [Oper.semAt_eq _ _ _ hd, hrun]
  rcases hnx with rfl | ⟨rfl, rfl⟩
  · exact hn G' v' w' hr hi' he
  · exact hn G' undef w' hr hi' he

/-- The function has a body, and is no function of the model's own. -/
structure Body (P : Program) (f : FuncId) (fn : Func) (c : Code) : Prop where
  here : P.funcs[f]? = some fn
  name : (fn.name == "runtime.NumGoroutine") = false
  body : fn.body = some c

theorem opStep_call {C : Cx} {o : Oper} {ρ : Operand → AV} {σ σ' : Sto} {f : Operand} {as : Array Operand} {ts : Array TypeId} {g : FuncId} {caps : List AV} {fn : Func} {c : Code} {r : AV}
    (ho : o.op = .call { callee := .value f, args := as, argTypes := ts }) (hf : ρ f = .fn g caps) (hb : Body C.P g fn c) (h : CallS C g (as.toList.map ρ ++ caps) σ r σ') : OpStep C o ρ σ r σ' := by
  intro ro w0 G a w hi hx next Q hn
  refine ⟨fun _ _ => trivial, ?_⟩
  rw [Oper.semAt_eq _ _ _ (fun c hc => by rw [ho] at hc; cases hc)]
  have hp := hx f (by simp [ho, Op.operands, Call.operands])
  rw [hf] at hp
  cases hv : a.eval f with
  | func fv first cv =>
    rw [hv] at hp
    cases hp with
    | fn _ _ _ hl hcv =>
      have hargs : ∀ (i : Nat) (x : AV) (v : Value), (as.toList.map ρ ++ caps)[i]? = some x → (as.map a.eval ++ cv)[i]? = some v → Rep G x v := by
        intro i x v h1 h2
        rw [List.getElem?_append] at h1
        rw [Array.getElem?_append] at h2
        simp only [List.length_map, Array.length_toList, Array.size_map] at h1 h2
        split at h1
        · rename_i hlt
          rw [if_pos hlt] at h2
          simp only [List.getElem?_map, Array.getElem?_toList, Array.getElem?_map] at h1 h2
          cases hy : as[i]? with
          | none => simp [hy] at h1
          | some y =>
            simp only [hy, Option.map_some, Option.some.injEq] at h1 h2
            subst h1; subst h2
            exact hx y (by simp only [ho, Op.operands, Call.operands]; rw [Array.toList_append]; exact List.mem_append_right _ (Array.mem_toList_iff.2 (Array.mem_of_getElem? hy)))
        · rename_i hge
          rw [if_neg hge] at h2
          exact hcv _ x v h1 h2
      have hrun : (execOp a.eval o).run C.P w = .ok (.enter g (as.map a.eval ++ cv)) w := by
        have hnm : ¬ (fn.name = "runtime.NumGoroutine") := by simpa using hb.name
        simp [execOp, ho, resolve, hv, Deferred.ofValue, invoke, callFunc, hb.here, hnm, hb.body]
      rw [hrun]
      refine ⟨(fun h => by cases h), ?_⟩
      refine callsIn_round ro _ ((h w0 G w (as.map a.eval ++ cv) hi (by simp [hl]) hargs).mono ?_)
      rintro e w' ⟨G', v, rfl, h1, h2, h3⟩
      exact hn G' v w' h1 h2 h3
  | _ => rw [hv] at hp; cases hp

/-! ### Lists of operations -/
def OpsS (C : Cx) (nt : Nat) (ops : Array Oper) (idx : List Nat) (env : Env) (σ : Sto) (env' : Env) (σ' : Sto) : Prop :=
  ∀ ro w0 G a w, Rel C w0 G nt env σ a w → ∀ (Q : Exit → Act → World → Prop) (rest : List Nat),
    (∀ G' a' w', Rel C w0 G' nt env' σ' a' w' → Ext G σ w G' σ' w' → a'.defers = a.defers → wpOpsIn (FW ro) 0 C.P ops Q rest a' w') → wpOpsIn (FW ro) 0 C.P ops Q (idx ++ rest) a w

def putA (env : Env) (d : Option Tmp) (v : AV) : Env := match d with | some d => upd env d v | none => env

/-- The guard of an operation: the truth value, and what it must be. -/
def guardA (nt : Nat) (ops : Array Oper) (env : Env) (o : Oper) : Option (AV × Bool) :=
  match o.guard with
  | none => none
  | some (j, want) => some (match (ops[j]?).bind (·.dst) with | some d => if d < nt then env d else .undef | none => .undef, want)

def goesA (g : Option (AV × Bool)) : Bool := match g with | none => true | some (v, want) => v.goes want
def gOK (g : Option (AV × Bool)) : Prop := match g with | none => True | some (v, _) => v.isGd = true

theorem wanted_eq {nt : Nat} {ops : Array Oper} {env : Env} {o : Oper} {G : Gh} {tmps : Array Value} (he : EnvRep G nt env tmps) (hg : gOK (guardA nt ops env o)) : Region.wanted o (yielded ops tmps) = goesA (guardA nt ops env o) := by
  unfold Region.wanted guardA at *
  cases hgd : o.guard with
  | none => rfl
  | some jw =>
    obtain ⟨j, want⟩ := jw
    rw [hgd] at hg
    simp only [gOK, goesA] at hg ⊢
    cases hd : (ops[j]?).bind (·.dst) with
    | none => rw [hd] at hg; simp [AV.isGd] at hg
    | some d =>
      rw [hd] at hg
      simp only at hg ⊢
      by_cases hlt : d < nt
      · simp only [hlt, if_true] at hg ⊢
        have hr := he.rep d hlt
        have hs : d < tmps.size := by rw [he.size]; exact hlt
        rw [Array.getD_eq_getD_getElem?, Array.getElem?_eq_getElem hs] at hr
        simp only [Option.getD_some] at hr
        have h2 : tmps[d]? = some tmps[d] := Array.getElem?_eq_getElem hs
        generalize tmps[d] = u at hr h2
        cases hv : env d with
        | bool b =>
          rw [hv] at hr
          cases hr
          simp only [yielded, hd, Option.bind_some, h2, AV.goes]
          cases b <;> cases want <;> rfl
        | tup vs =>
          rw [hv] at hr hg
          cases vs with
          | nil =>
            cases hr with
            | tup _ us hl _ =>
              simp only [yielded, hd, Option.bind_some, h2, AV.goes]
              rfl
          | cons v vs => simp [AV.isGd] at hg
        | _ => rw [hv] at hg; simp [AV.isGd] at hg
      · simp only [hlt, if_false] at hg; simp [AV.isGd] at hg

section
variable {C : Cx} {nt : Nat} {ops : Array Oper}

theorem opsS_nil {env : Env} {σ : Sto} : OpsS C nt ops [] env σ env σ := fun ro w0 G a w h Q rest k => k G a w h (.refl G σ w) rfl

theorem opsS_cons {i : Nat} {is : List Nat} {o : Oper} {env env' : Env} {σ σ1 σ' : Sto} {v : AV} (ho : ops[i]? = some o) (hg : gOK (guardA nt ops env o))
    (hstep : goesA (guardA nt ops env o) = true → OpStep C o (ev C nt env) σ v σ1) (hskip : goesA (guardA nt ops env o) = false → v = .skp ∧ σ1 = σ)
    (h : OpsS C nt ops is (putA env o.dst v) σ1 env' σ') : OpsS C nt ops (i :: is) env σ env' σ' := by
  intro ro w0 G a w hrel Q rest hk
  simp only [List.cons_append, wpOpsIn, ho]
  rw [wanted_eq hrel.env hg]
  cases hgo : goesA (guardA nt ops env o) with
  | true =>
    simp only [if_true]
    refine hstep hgo ro w0 G a w hrel.inv (fun x _ => hrel.env.ev hrel.inv x) _ _ fun G' v' w' hr hi he => ?_
    refine h ro w0 G' (a.put o.dst v') w' ⟨hi, ?_⟩ Q rest fun G2 a2 w2 h2 e2 d2 => hk G2 a2 w2 h2 (he.trans e2) (by rw [d2]; cases o.dst <;> rfl)
    exact (hrel.env.mono he.le).put hr o.dst
  | false =>
    obtain ⟨rfl, rfl⟩ := hskip hgo
    simp only [Bool.false_eq_true, if_false]
    refine ⟨fun _ _ => trivial, ?_⟩
    refine h ro w0 G (a.put o.dst undef) w ⟨hrel.inv, hrel.env.put (rep_skp G) o.dst⟩ Q rest fun G2 a2 w2 h2 e2 d2 => hk G2 a2 w2 h2 e2 (by rw [d2]; cases o.dst <;> rfl)
end

/-! ### Code -/
section
variable {C : Cx} {ro : Option Nat} {nt : Nat}

theorem codeS_region {id : Nat} {ops : Array Oper} {env env' : Env} {σ σ' : Sto} (h : OpsS C nt ops (List.range ops.size) env σ env' σ') : CodeS C ro nt (.region id ops false) env σ .normal env' σ' := by
  intro w0 G a w hrel cr hcr
  refine wpIn_region ?_
  have := h cr w0 G a w hrel (fun e2 a' w' => e2 = .normal ∧ ∃ G' ms, Rel C w0 G' nt env' σ' a' w' ∧ Ext G σ w G' σ' w' ∧ a'.defers = ms.map mk ++ a.defers ∧ Marks G' σ' w' w.heap.size ms) [] fun G' a' w' h1 h2 h3 => by
    simp only [wpOpsIn]
    exact ⟨trivial, G', [], h1, h2, by simpa using h3, Marks.nil⟩
  simpa using this

theorem codeS_skip {env : Env} {σ : Sto} : CodeS C ro nt .skip env σ .normal env σ := fun w0 G a w h cr hcr => wpIn_skip ⟨rfl, G, [], h, .refl G σ w, rfl, Marks.nil⟩
theorem codeS_label {l : Nat} {env : Env} {σ : Sto} : CodeS C ro nt (.label l) env σ .normal env σ := fun w0 G a w h cr hcr => wpIn_label ⟨rfl, G, [], h, .refl G σ w, rfl, Marks.nil⟩
theorem codeS_exit {id : Nat} {env : Env} {σ : Sto} : CodeS C ro nt (.exit id) env σ (.exit id) env σ := fun w0 G a w h cr hcr => wpIn_exit ⟨rfl, G, [], h, .refl G σ w, rfl, Marks.nil⟩
theorem codeS_goto {l : Nat} {env : Env} {σ : Sto} : CodeS C ro nt (.goto l) env σ (.goto l) env σ := fun w0 G a w h cr hcr => wpIn_goto ⟨rfl, G, [], h, .refl G σ w, rfl, Marks.nil⟩
theorem codeS_ret {env : Env} {σ : Sto} : CodeS C ro nt .ret env σ .ret env σ := fun w0 G a w h cr hcr => wpIn_ret ⟨rfl, G, [], h, .refl G σ w, rfl, Marks.nil⟩

/-- Two steps in a row: the second's marks on top of the first's. -/
theorem post_trans {w0 : World} {G G1 : Gh} {env1 env' : Env} {σ σ1 σ' : Sto} {a a1 : Act} {w w1 : World} {ms1 : List Nat} (e1 : Ext G σ w G1 σ1 w1) (d1 : a1.defers = ms1.map mk ++ a.defers) (m1 : Marks G1 σ1 w1 w.heap.size ms1)
    {a' : Act} {w' : World} (h : ∃ G' ms, Rel C w0 G' nt env' σ' a' w' ∧ Ext G1 σ1 w1 G' σ' w' ∧ a'.defers = ms.map mk ++ a1.defers ∧ Marks G' σ' w' w1.heap.size ms) :
    ∃ G' ms, Rel C w0 G' nt env' σ' a' w' ∧ Ext G σ w G' σ' w' ∧ a'.defers = ms.map mk ++ a.defers ∧ Marks G' σ' w' w.heap.size ms := by
  obtain ⟨G', ms, h1, h2, h3, h4⟩ := h
  refine ⟨G', ms ++ ms1, h1, e1.trans h2, by rw [h3, d1]; simp, (m1.ext h2).append h4 (fun r hr => ?_) e1.size⟩
  exact (Array.getElem?_eq_some_iff.1 (m1.ok r hr).2.1).1

theorem codeS_seq {x y : Code} {env env1 env' : Env} {σ σ1 σ' : Sto} {e : Exit} (hx : CodeS C ro nt x env σ .normal env1 σ1) (hy : CodeS C ro nt y env1 σ1 e env' σ') : CodeS C ro nt (.seq x y) env σ e env' σ' := by
  intro w0 G a w h cr hcr
  refine wpIn_seq (wpIn_mono (hx w0 G a w h cr hcr) ?_)
  rintro e2 a1 w1 ⟨rfl, G1, ms1, h1, h2, h3, h4⟩
  refine wpIn_mono (hy w0 G1 a1 w1 h1 cr (hcr.mono h2.le)) ?_
  rintro e3 a' w' ⟨rfl, hp⟩
  exact ⟨rfl, post_trans (env1 := env1) h2 h3 h4 hp⟩

theorem codeS_seq_exit {x y : Code} {env env1 : Env} {σ σ1 : Sto} {e : Exit} (hx : CodeS C ro nt x env σ e env1 σ1) (he : e ≠ .normal) : CodeS C ro nt (.seq x y) env σ e env1 σ1 := by
  intro w0 G a w h cr hcr
  refine wpIn_seq (wpIn_mono (hx w0 G a w h cr hcr) ?_)
  rintro e2 a1 w1 ⟨rfl, hp⟩
  cases e2 <;> first | exact absurd rfl he | exact ⟨rfl, hp⟩

theorem codeS_cond {c : Operand} {x y : Code} {env env' : Env} {σ σ' : Sto} {e : Exit} {t : Bool} (hc : ev C nt env c = .bool t) (h : CodeS C ro nt (if t then x else y) env σ e env' σ') : CodeS C ro nt (.cond c x y) env σ e env' σ' := by
  intro w0 G a w hr cr hcr
  have he := hr.env.ev hr.inv c
  rw [hc] at he
  exact wpIn_cond (he.isBool rfl) (h w0 G a w hr cr hcr)

def inBlk (id : Nat) (e : Exit) : Exit :=
  match e with
  | .exit id' => if id' = id then .normal else .exit id'
  | e => e

theorem codeS_block {id : Nat} {c : Code} {env env' : Env} {σ σ' : Sto} {e : Exit} (h : CodeS C ro nt c env σ e env' σ') : CodeS C ro nt (.block id c) env σ (inBlk id e) env' σ' := by
  intro w0 G a w hr cr hcr
  refine wpIn_block (wpIn_mono (h w0 G a w hr cr hcr) ?_)
  rintro e2 a1 w1 ⟨rfl, hp⟩
  cases e2 with
  | exit id' =>
    by_cases e : id' = id
    · simp only [Exit.inBlock, inBlk, if_pos e]; exact ⟨trivial, hp⟩
    · simp only [Exit.inBlock, inBlk, if_neg e]; exact ⟨trivial, hp⟩
  | _ => exact ⟨rfl, hp⟩

/-- A loop: the rounds that end normally, then one that does not. -/
inductive LoopS (C : Cx) (ro : Option Nat) (nt : Nat) (c : Code) : Env → Sto → Exit → Env → Sto → Prop
  | last {env env' : Env} {σ σ' : Sto} {e : Exit} (h : CodeS C ro nt c env σ e env' σ') (he : e ≠ .normal) : LoopS C ro nt c env σ e env' σ'
  | more {env env1 env' : Env} {σ σ1 σ' : Sto} {e : Exit} (h : CodeS C ro nt c env σ .normal env1 σ1) (k : LoopS C ro nt c env1 σ1 e env' σ') : LoopS C ro nt c env σ e env' σ'

theorem roundsIn_mono {F : Fence} {n : Nat} {P : Program} {c : Code} {Q Q' : Exit → Act → World → Prop} (hq : ∀ e a w, Q e a w → Q' e a w) : ∀ (m : Nat) (a : Act) (w : World), Code.roundsIn F n P c Q m a w → Code.roundsIn F n P c Q' m a w
  | 0, _, _, h => h.elim
  | m + 1, a, w, h => wpIn_mono h fun e a' w' he => by
    cases e with
    | normal => exact roundsIn_mono hq m a' w' he
    | _ => exact hq _ _ _ he

theorem codeS_loop {c : Code} {env env' : Env} {σ σ' : Sto} {e : Exit} (h : LoopS C ro nt c env σ e env' σ') : CodeS C ro nt (.loop c) env σ e env' σ' := by
  have hex : ∃ m, ∀ w0 G a w, Rel C w0 G nt env σ a w → ∀ cr, RoOK G ro cr → Code.roundsIn (FW cr) 0 C.P c (fun e2 a' w' => e2 = e ∧ ∃ G' ms, Rel C w0 G' nt env' σ' a' w' ∧ Ext G σ w G' σ' w' ∧ a'.defers = ms.map mk ++ a.defers ∧ Marks G' σ' w' w.heap.size ms) m a w := by
    induction h with
    | last h he =>
      refine ⟨1, fun w0 G a w hr cr hcr => ?_⟩
      refine wpIn_mono (h w0 G a w hr cr hcr) ?_
      rintro e2 a1 w1 ⟨rfl, hp⟩
      cases e2 <;> first | exact absurd rfl he | exact ⟨rfl, hp⟩
    | more h k ih =>
      obtain ⟨m, hm⟩ := ih
      refine ⟨m + 1, fun w0 G a w hr cr hcr => ?_⟩
      refine wpIn_mono (h w0 G a w hr cr hcr) ?_
      rintro e2 a1 w1 ⟨rfl, G1, ms1, h1, h2, h3, h4⟩
      refine roundsIn_mono ?_ m a1 w1 (hm w0 G1 a1 w1 h1 cr (hcr.mono h2.le))
      rintro e3 a' w' ⟨rfl, hp⟩
      exact ⟨rfl, post_trans (env1 := env) h2 h3 h4 hp⟩
  intro w0 G a w hr cr hcr
  obtain ⟨m, hm⟩ := hex
  exact wpIn_loop_rounds m (hm w0 G a w hr cr hcr)

/-- Less may be known of the temporaries. -/
def Env.le (env env1 : Env) : Prop := ∀ t, env1 t = env t ∨ env1 t = .undef

theorem EnvRep.weaken {G : Gh} {env env1 : Env} {tmps : Array Value} (h : EnvRep G nt env tmps) (hl : Env.le env env1) : EnvRep G nt env1 tmps :=
  ⟨h.size, fun t ht => by rcases hl t with e | e <;> rw [e]; exact h.rep t ht; exact .undef _⟩

theorem codeS_pre {c : Code} {env env1 env' : Env} {σ σ' : Sto} {e : Exit} (hl : Env.le env env1) (h : CodeS C ro nt c env1 σ e env' σ') : CodeS C ro nt c env σ e env' σ' :=
  fun w0 G a w hr cr hcr => h w0 G a w ⟨hr.inv, hr.env.weaken hl⟩ cr hcr

theorem codeS_post {c : Code} {env env1 env' : Env} {σ σ' : Sto} {e : Exit} (h : CodeS C ro nt c env σ e env1 σ') (hl : Env.le env1 env') : CodeS C ro nt c env σ e env' σ' :=
  fun w0 G a w hr cr hcr => wpIn_mono (h w0 G a w hr cr hcr) fun e2 a' w' hp => by
    obtain ⟨h1, G', ms, h2, h3⟩ := hp
    exact ⟨h1, G', ms, ⟨h2.inv, h2.env.weaken hl⟩, h3⟩
end

theorem codeS_preS {C : Cx} {ro : Option Nat} {nt : Nat} {c : Code} {env env' : Env} {σ σ1 σ' : Sto} {e : Exit} (hl : σ.le σ1) (h : CodeS C ro nt c env σ1 e env' σ') : CodeS C ro nt c env σ e env' σ' :=
  fun w0 G a w hr cr hcr => wpIn_mono (h w0 G a w ⟨hr.inv.forget hl, hr.env⟩ cr hcr) fun e2 a' w' hp => by
    obtain ⟨h1, G', ms, h2, h3, h4⟩ := hp
    exact ⟨h1, G', ms, h2, (Ext.forget hl).trans h3, h4⟩

theorem codeS_postS {C : Cx} {ro : Option Nat} {nt : Nat} {c : Code} {env env' : Env} {σ σ1 σ' : Sto} {e : Exit} (h : CodeS C ro nt c env σ e env' σ1) (hl : σ1.le σ') : CodeS C ro nt c env σ e env' σ' :=
  fun w0 G a w hr cr hcr => wpIn_mono (h w0 G a w hr cr hcr) fun e2 a' w' hp => by
    obtain ⟨h1, G', ms, h2, h3, h4, h5⟩ := hp
    exact ⟨h1, G', ms, ⟨h2.inv.forget hl, h2.env⟩, h3.trans (Ext.forget hl), h4, h5.ext (Ext.forget hl)⟩

theorem CallS.forget {C : Cx} {f : FuncId} {args : List AV} {σ σ1 σ' : Sto} {r : AV} (h : CallS C f args σ r σ1) (hl : σ1.le σ') : CallS C f args σ r σ' :=
  fun w0 G w V hi hV hrep => (h w0 G w V hi hV hrep).mono fun e w' hp => by
    obtain ⟨G', v, h1, h2, h3, h4⟩ := hp
    exact ⟨G', v, h1, h2, h3.forget hl, h4.trans (Ext.forget hl)⟩

/-! ### A function -/
def resA (C : Cx) (nt : Nat) (env : Env) (σ : Sto) : ResultVar → AV
  | .tmp t => ev C nt env (.tmp t)
  | .cell a t =>
    match ev C nt env (.tmp a), C.ty t with
    | .ptr id k, some i => rdC i (boxCells σ id) k
    | _, _ => .undef
def resOK (C : Cx) (nt : Nat) (env : Env) (σ : Sto) : ResultVar → Prop
  | .tmp _ => True
  | .cell a t => ∃ id k i cs, ev C nt env (.tmp a) = .ptr id k ∧ C.ty t = some i ∧ σ.get id = some (.box cs) ∧ rdOK i cs k
def oneOr (xs : List AV) : AV := match xs with | [x] => x | xs => .tup xs

def resSem (tmps : Array Value) (r : ResultVar) : Sem Value :=
  match r with
  | .tmp t => pure (tmps.getD t undef)
  | .cell a t => do loadVar t (← asAddr (tmps.getD a undef))

theorem results_eq (fn : Func) (tmps : Array Value) : results fn tmps = (do let vs ← fn.results.mapM (resSem tmps); pure (if h : vs.size = 1 then vs[0] else .tuple vs)) := rfl

theorem run_results {C : Cx} {w0 : World} {G : Gh} {nt : Nat} {env : Env} {σ : Sto} {a : Act} {w : World} (fn : Func) (hi : Inv C.gl w0 G σ w) (he : EnvRep G nt env a.tmps) (hok : ∀ r ∈ fn.results.toList, resOK C nt env σ r) :
    ∃ v, (results fn a.tmps).run C.P w = .ok v w ∧ Rep G (oneOr (fn.results.toList.map (resA C nt env σ))) v := by
  have each : ∀ r : ResultVar, resOK C nt env σ r → ∃ v, (resSem a.tmps r).run C.P w = .ok v w ∧ Rep G (resA C nt env σ r) v := by
    intro r hr
    cases r with
    | tmp t => exact ⟨_, rfl, he.ev (C := C) (a := a) hi (.tmp t)⟩
    | cell p t =>
      obtain ⟨id, k, i, cs, h1, h2, h3, h4⟩ := hr
      have hp := he.ev (C := C) (a := a) hi (.tmp p)
      rw [h1] at hp
      simp only [Act.eval] at hp
      cases hv : a.tmps.getD p undef with
      | pointer ad =>
        rw [hv] at hp
        cases hp with
        | ptr _ _ B hj =>
          obtain ⟨_, vs, ty, g1, g2, g3, g4⟩ := hi.obj id _ B h3 hj
          obtain ⟨v, e1, e2⟩ := run_loadVar_rd (C := C) h2 (G := G) (w := w) (cells := cs) (b := B.b) (o := 0) (k := k) (fun j c hj' => by
            obtain ⟨v, hv', hr'⟩ := g3 j c hj'
            exact ⟨v, by rw [cell_at g1]; simpa using hv', hr'⟩) h4
          rw [Nat.zero_add] at e1
          refine ⟨v, by simp only [resSem, hv, asAddr, Sem.run_bind, Sem.run_pure, Result.andThen_ok, e1], ?_⟩
          have hb : boxCells σ id = cs := by simp [boxCells, h3]
          simp only [resA, h1, h2, hb]
          exact e2
      | _ => rw [hv] at hp; cases hp
  have all : ∀ rs : List ResultVar, (∀ r ∈ rs, resOK C nt env σ r) → ∃ vs : List Value, (rs.mapM (resSem a.tmps)).run C.P w = .ok vs w ∧
      vs.length = rs.length ∧ ∀ (i : Nat) (x : AV) (v : Value), (rs.map (resA C nt env σ))[i]? = some x → vs[i]? = some v → Rep G x v := by
    intro rs
    induction rs with
    | nil => intro _; exact ⟨[], by simp, rfl, fun i x v h => by simp at h⟩
    | cons r rs ih =>
      intro h
      obtain ⟨v, h1, h2⟩ := each r (h r (by simp))
      obtain ⟨vs, h3, h4, h5⟩ := ih fun r hr => h r (by simp [hr])
      refine ⟨v :: vs, by simp only [List.mapM_cons, Sem.run_bind, h1, Result.andThen_ok, h3, Sem.run_pure], by simp [h4], fun i x u hx hu => ?_⟩
      cases i with
      | zero => simp at hx hu; subst hx; subst hu; exact h2
      | succ i => simp only [List.map_cons, List.getElem?_cons_succ] at hx hu; exact h5 i x u hx hu
  obtain ⟨vs, h1, h2, h3⟩ := all fn.results.toList hok
  have hrun : (results fn a.tmps).run C.P w = .ok (if h : vs.toArray.size = 1 then vs.toArray[0] else .tuple vs.toArray) w := by
    rw [results_eq, Array.mapM_eq_mapM_toList]
    simp only [Sem.run_bind, Sem.run_map, h1, Result.andThen_ok, Sem.run_pure]
  refine ⟨_, hrun, ?_⟩
  generalize hvs : vs = us at h2 h3 ⊢
  match us, hm : fn.results.toList.map (resA C nt env σ), h2 with
  | [v], [x], _ => exact h3 0 x v (by rw [hm]; rfl) rfl
  | [], [], _ => exact .tup [] #[] rfl fun i c v h _ => by simp at h
  | v :: v2 :: vs', x :: x2 :: xs', hl =>
    simp only [oneOr]
    rw [dif_neg (by simp)]
    rw [hm] at h3
    have hl2 : (x :: x2 :: xs').length = (v :: v2 :: vs').length := by rw [← hm, List.length_map, hl]
    exact .tup _ _ (by simp at hl2 ⊢; omega) fun i c u hc hu => h3 i c u hc (by simpa using hu)
  | [], x :: xs', hl => rw [← List.length_map (f := resA C nt env σ), hm] at hl; simp at hl
  | [v], [], hl => rw [← List.length_map (f := resA C nt env σ), hm] at hl; simp at hl
  | [v], x :: x2 :: xs', hl => rw [← List.length_map (f := resA C nt env σ), hm] at hl; simp at hl
  | v :: v2 :: vs', [], hl => rw [← List.length_map (f := resA C nt env σ), hm] at hl; simp at hl
  | v :: v2 :: vs', [x], hl => rw [← List.length_map (f := resA C nt env σ), hm] at hl; simp at hl

/-- A block that is no cells and no object of the store's is written. -/
theorem Inv.put {gl : Nat → List AV} {w0 w : World} {G : Gh} {σ : Sto} (h : Inv gl w0 G σ w) {r : Nat} {ob : Obj} (ob' : Obj) (hr : w.heap[r]? = some ob) (hnc : ∀ c t f, ob ≠ .cells c t f) (hn : ¬ Own G σ r) (hb : w0.heap.size ≤ r) : Inv gl w0 G σ (w.putObj r ob') where
  below := h.below.trans ⟨rfl, rfl, rfl, by simp, fun k hk => World.putObj_heap_other (by omega)⟩
  imm := fun b o v hv => by
    have hc := h.imm b o v hv
    have hne : b ≠ r := by
      rintro rfl
      simp only [World.cell?, hr] at hc
      cases ob <;> first | exact hnc _ _ _ rfl | cases hc
    exact (World.cell?_of_block (w := w) (a := ⟨b, o, none⟩) (World.putObj_heap_other hne)).trans hc
  gl := h.gl
  live := h.live
  obj := fun id o B h1 h2 => by
    have hne : B.b ≠ r := fun e => hn (.inl ⟨id, o, B, h1, h2, e⟩)
    exact ⟨(h.obj id o B h1 h2).1, (h.obj id o B h1 h2).2.keep (.refl G) (World.putObj_heap_other hne) fun _ => rfl⟩
  fresh := h.fresh
  inj := h.inj
  has := h.has
  freshT := h.freshT
  tok := h.tok.step rfl (fun _ _ _ x => x) (fun id b hbt => ⟨World.putObj_heap_other (fun e => hn (.inr ⟨id, e ▸ hbt⟩)), fun _ => rfl⟩) h.tok.oj

theorem Ext.put {w : World} {G : Gh} {σ : Sto} {r : Nat} (ob' : Obj) : ∀ b, b < w.heap.size → b ≠ r → ¬ Own G σ b → (w.putObj r ob').heap[b]? = w.heap[b]? := fun b _ hb _ => World.putObj_heap_other hb

/-- The marks are taken, one by one. -/
theorem leaves_marks {C : Cx} {fn : Func} {tmps : Array Value} {R : Ending → World → Prop} {w0 : World} {G0 G : Gh} {σ0 σ : Sto} {we : World} (hbs : w0.heap.size ≤ we.heap.size) : ∀ (ms : List Nat) (w : World), Inv C.gl w0 G σ w → Ext G0 σ0 we G σ w → Marks G σ w we.heap.size ms →
    (∀ w', Inv C.gl w0 G σ w' → Ext G0 σ0 we G σ w' → ∃ v, (results fn tmps).run C.P w' = .ok v w' ∧ R (.returned v) w') → LeavesInM Fence.wide 0 C.P fn tmps R (ms.map mk) .returning w
  | [], w, hi, he, hm, hk => by
    simp only [List.map_nil, LeavesInM, LeavesIn]
    exact hk w hi he
  | r :: ms, w, hi, he, hm, hk => by
    obtain ⟨h1, h2, h3⟩ := hm.ok r (by simp)
    have hbase : w0.heap.size ≤ r := Nat.le_trans hbs h1
    refine ⟨by simp, .inl ⟨r, _, rfl, run_takeDeferred h2, ?_⟩⟩
    have hi' := hi.put (.deferred none) h2 (fun _ _ _ h => by cases h) h3 hbase
    refine leaves_marks hbs ms _ hi' ⟨he.le, by simpa using he.size, fun b hb ho => ?_, he.next⟩ ⟨(List.nodup_cons.1 hm.nd).2, fun r' hr' => ?_⟩ hk
    · obtain ⟨k1, k2, k3⟩ := he.keep b hb ho
      exact ⟨(World.putObj_heap_other (by omega)).trans k1, k2, k3⟩
    · obtain ⟨g1, g2, g3⟩ := hm.ok r' (by simp [hr'])
      have hne : r' ≠ r := by rintro rfl; exact (List.nodup_cons.1 hm.nd).1 hr'
      exact ⟨g1, (World.putObj_heap_other hne).trans g2, g3⟩

/-- The environment at a function's entry. -/
def env0 (args : List AV) : Env := fun t => args.getD t .undef

/-- A FUNCTION's CONTRACT FROM ITS BODY. -/
theorem callS_of_body {C : Cx} {f : FuncId} {fn : Func} {c : Code} {args : List AV} {σ σ' : Sto} {env' : Env} {e : Exit} (hb : Body C.P f fn c) (hl : args.length ≤ fn.ntmps)
    (h : CodeS C none fn.ntmps c (env0 args) σ e env' σ') (he : e = .normal ∨ e = .ret) (hr : ∀ r ∈ fn.results.toList, resOK C fn.ntmps env' σ' r) :
    CallS C f args σ (oneOr (fn.results.toList.map (resA C fn.ntmps env' σ'))) σ' := by
  intro w0 G w V hi hV hrep
  have hbody := h w0 G { tmps := V ++ Array.replicate (fn.ntmps - V.size) undef, defers := [] } w ⟨hi, by simp; omega, fun t ht => by
    simp only [env0]
    by_cases hlt : t < args.length
    · have h1 : args.getD t .undef = args[t] := by rw [List.getD_eq_getElem?_getD, List.getElem?_eq_getElem hlt]; rfl
      have h2 : (V ++ Array.replicate (fn.ntmps - V.size) undef).getD t undef = V[t]'(by omega) := by
        rw [Array.getD_eq_getD_getElem?, Array.getElem?_append, if_pos (by omega), Array.getElem?_eq_getElem (by omega)]; rfl
      rw [h1, h2]
      exact hrep t _ _ (List.getElem?_eq_getElem hlt) (Array.getElem?_eq_getElem (by omega))
    · have : args.getD t .undef = .undef := by rw [List.getD_eq_getElem?_getD, List.getElem?_eq_none (by omega)]; rfl
      rw [this]; exact .undef _⟩ none trivial
  refine callsIn_of_wp_marks hb.here hb.body trivial (wpIn_mono hbody ?_)
  rintro e2 a' w' ⟨rfl, G', ms, h1, h2, h3, h4⟩
  have hms : a'.defers = ms.map mk := by rw [h3]; simp
  have key : LeavesInM Fence.wide 0 C.P fn a'.tmps (fun e w' => ∃ G' v, e = .returned v ∧ Rep G' (oneOr (fn.results.toList.map (resA C fn.ntmps env' σ'))) v ∧ Inv C.gl w0 G' σ' w' ∧ Ext G σ w G' σ' w') a'.defers .returning w' := by
    rw [hms]
    refine leaves_marks hi.base_le ms w' h1.inv h2 h4 fun w2 hi2 he2 => ?_
    obtain ⟨v, g1, g2⟩ := run_results (a := a') fn hi2 h1.env hr
    exact ⟨v, g1, G', v, rfl, g2, hi2, he2⟩
  rcases he with rfl | rfl <;> exact key

end Go.Lg
