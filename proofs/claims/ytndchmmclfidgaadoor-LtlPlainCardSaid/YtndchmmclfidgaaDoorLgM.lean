/- Lg, part M: loops over functions. -/
import Derived.Test.YtndchmmclfidgaaDoorLgL
set_option linter.unusedVariables false
set_option linter.unusedSimpArgs false
namespace Go.Lg
open Go.RowKit

/-- A block that is no object of the store's. -/
theorem Inv.other {gl : Nat → List AV} {w0 w : World} {G : Gh} {σ : Sto} (h : Inv gl w0 G σ w) (ob : Obj) : Inv gl w0 G σ (w.alloc ob) where
  below := h.below.alloc h.base_le _
  imm := fun b o v hv => by rw [World.cell?_alloc_lt (h := h.imm_lt hv)]; exact h.imm b o v hv
  gl := h.gl
  live := h.live
  obj := fun id o B h1 h2 => ⟨(h.obj id o B h1 h2).1, (h.obj id o B h1 h2).2.keep (.refl G) (Below.heap_alloc _ _ _ (h.obj id o B h1 h2).2.lt) fun _ => rfl⟩
  fresh := h.fresh
  inj := h.inj
  has := h.has
  freshT := h.freshT
  tok := h.tok.step rfl (fun _ _ _ x => x) (fun id b hb => ⟨Below.heap_alloc _ _ _ (h.tok.lt hb), fun _ => rfl⟩) h.tok.oj

theorem Ext.other {w : World} (G : Gh) (σ : Sto) (ob : Obj) : Ext G σ w G σ (w.alloc ob) where
  le := .refl G
  size := by simp
  keep := fun b hb ho => ⟨Below.heap_alloc _ _ _ hb, fun _ => rfl, ho⟩
  next := Nat.le_refl _

/-- The record of a loop. -/
theorem Inv.loopAt {gl : Nat → List AV} {w0 w : World} {G : Gh} {σ : Sto} (h : Inv gl w0 G σ w) {id : Nat} {L : LoopI} {st : LoopState} {pe : Option Code} {B : Blk} (hs : σ.get id = some (.loop L st pe)) (hj : G.j id = some B) :
    ∃ r : Loop, w.heap[B.b]? = some (.loop r) ∧ r.state = st ∧ r.pending = pe ∧ r.params = L.ps ∧ r.assign = L.assign ∧ r.body = L.body ∧ EnvRep G L.nt L.env r.tmps ∧
      ∀ st' pe', Inv gl w0 G (σ.set id (.loop L st' pe')) (w.putObj B.b (.loop { r with state := st', pending := pe' })) ∧ Ext G σ w G (σ.set id (.loop L st' pe')) (w.putObj B.b (.loop { r with state := st', pending := pe' })) := by
  obtain ⟨hB, r, h1, h2, h3, h4, h5, h6, h7, h8, h9⟩ := h.obj id _ B hs hj
  refine ⟨r, h1, h2, h3, h4, h5, h6, ⟨h7, h8⟩, fun st' pe' => ⟨?_, ?_⟩⟩
  · refine h.set id _ _ B hs hj rfl rfl rfl (by simp) (fun b hb => World.putObj_heap_other hb) (fun k v hv => by rw [h9 k] at hv; cases hv) ?_
    exact ⟨_, World.putObj_heap_same (Array.getElem?_eq_some_iff.1 h1).1, rfl, rfl, h4, h5, h6, h7, h8, h9⟩
  · exact .set id _ _ B hs hj (by simp) (fun b hb => World.putObj_heap_other hb)

/-- The jump that is left pending when a round's body is left so. -/
def jumpC : Exit → Option (Option Code)
  | .normal => some none
  | .ret => some (some .ret)
  | .exit id => some (some (.exit id))
  | .goto l => some (some (.goto l))
  | _ => none

/-- Yield's arguments in the loop's parameters. -/
def bindP (env : Env) : List Tmp → List AV → Env
  | p :: ps, x :: xs => bindP (upd env p x) ps xs
  | _, _ => env

theorem bindP_rep {G : Gh} {nt : Nat} : ∀ (ps : List Tmp) (xs : List AV) (vs : List Value) (env : Env) (tmps : Array Value), EnvRep G nt env tmps → xs.length = ps.length → vs.length = ps.length →
    (∀ (i : Nat) (x : AV) (v : Value), xs[i]? = some x → vs[i]? = some v → Rep G x v) → EnvRep G nt (bindP env ps xs) ((ps.zip vs).foldl (fun t (p : Tmp × Value) => t.setIfInBounds p.1 p.2) tmps)
  | [], _, _, env, tmps, h, _, _, _ => by simpa [bindP] using h
  | p :: ps, [], _, _, _, _, h, _, _ => by simp at h
  | p :: ps, x :: xs, [], _, _, _, _, h, _ => by simp at h
  | p :: ps, x :: xs, v :: vs, env, tmps, h, h1, h2, h3 => by
    simp only [bindP, List.zip_cons_cons, List.foldl_cons]
    refine bindP_rep ps xs vs _ _ ?_ (by simpa using h1) (by simpa using h2) fun i x v hx hv => h3 (i + 1) x v (by simpa using hx) (by simpa using hv)
    exact EnvRep.put (a := { tmps := tmps, defers := [] }) h (h3 0 x v rfl rfl) (some p)

section
variable {C : Cx} {ρ : Operand → AV} {σ : Sto} {o : Oper}

theorem opStep_yield {f : Operand} {as : Array Operand} {ts : Array TypeId} {id : Nat} {L : LoopI} {pe0 pe1 pe2 j : Option Code} {env1 env2 : Env} {σ1 σ2 : Sto} {e : Exit} (ho : o.op = .call { callee := .value f, args := as, argTypes := ts })
    (hf : ρ f = .yld id) (hs : σ.get id = some (.loop L .ready pe0)) (hps : as.size = L.ps.size)
    (ha : CodeS C (some id) L.nt L.assign (bindP L.env L.ps.toList (as.toList.map ρ)) σ .normal env1 σ1) (h1 : σ1.get id = some (.loop L .ready pe1))
    (hbd : CodeS C (some id) L.nt L.body env1 (σ1.set id (.loop L .busy pe1)) e env2 σ2) (h2 : σ2.get id = some (.loop L .busy pe2)) (hj : jumpC e = some j) :
    OpStep C o ρ σ (.bool j.isNone) (σ2.set id (.loop L (if j.isNone then .ready else .done) j)) := by
  intro ro w0 G a w hi hx next Q hn
  refine ⟨fun _ _ => trivial, ?_⟩
  rw [Oper.semAt_eq _ _ _ (fun c hc => by rw [ho] at hc; cases hc)]
  have hp := hx f (by simp [ho, Op.operands, Call.operands])
  rw [hf] at hp
  obtain ⟨B, hj0, hv⟩ : ∃ B, G.j id = some B ∧ a.eval f = .func (.yield B.b) #[] #[] := by
    generalize a.eval f = v at hp
    cases hp with
    | yld _ B hj => exact ⟨B, hj, rfl⟩
  obtain ⟨r, g1, g2, g3, g4, g5, g6, g7, _⟩ := hi.loopAt hs hj0
  have hrun : (execOp a.eval o).run C.P w = .ok (.round B.b r.fn ((r.params.zip (as.map a.eval)).foldl (fun tmps (t, a) => tmps.setIfInBounds t a) r.tmps) r.assign r.body) w := by
    have := run_yield (P := C.P) (args := as.map a.eval) g1 (by simp [g4, hps])
    simp [execOp, ho, resolve, hv, Deferred.ofValue, invoke, this]
  rw [hrun]
  refine ⟨(fun h => by cases h), ?_⟩
  have henv : EnvRep G L.nt (bindP L.env L.ps.toList (as.toList.map ρ)) ((r.params.zip (as.map a.eval)).foldl (fun tmps (t, a) => tmps.setIfInBounds t a) r.tmps) := by
    have e : (r.params.zip (as.map a.eval)).foldl (fun tmps (t, a) => tmps.setIfInBounds t a) r.tmps = (L.ps.toList.zip (as.toList.map a.eval)).foldl (fun t (p : Tmp × Value) => t.setIfInBounds p.1 p.2) r.tmps := by
      rw [← Array.foldl_toList, Array.toList_zip, g4, Array.toList_map]
    rw [e]
    refine bindP_rep _ _ _ _ _ g7 (by simp [hps]) (by simp [hps]) fun i x v hx' hv' => ?_
    simp only [List.getElem?_map, Array.getElem?_toList] at hx' hv'
    cases hy : as[i]? with
    | none => simp [hy] at hx'
    | some y =>
      simp only [hy, Option.map_some, Option.some.injEq] at hx' hv'
      subst hx'; subst hv'
      exact hx y (by simp only [ho, Op.operands, Call.operands]; rw [Array.toList_append]; exact List.mem_append_right _ (Array.mem_toList_iff.2 (Array.mem_of_getElem? hy)))
  have hR : RoundIn (FW ro) (0 - 1) C.P B.b r.fn ((r.params.zip (as.map a.eval)).foldl (fun tmps (t, a) => tmps.setIfInBounds t a) r.tmps) r.assign r.body w fun
      | .returned v, w'' => next (a.put o.dst v) w''
      | .panicked chain, w'' => Q (.panic chain) a w''
      | .outgrown, _ => LetsOut Q := by
    refine roundIn_of_wpIn trivial ?_
    rw [g5, g6]
    refine wpIn_mono (ha w0 G { tmps := _, defers := [] } w ⟨hi, henv⟩ (some B.b) ⟨B, hj0, rfl⟩) ?_
    rintro e2 a1 w1 ⟨rfl, G1, ms1, k1, k2, _, _⟩
    have hj1 := k2.le.j _ _ hj0
    obtain ⟨r1, m1, m2, m3, m4, m5, m6, m7, m8⟩ := k1.inv.loopAt h1 hj1
    refine ⟨_, run_beginRound m1 m2, ?_⟩
    obtain ⟨i1, x1⟩ := m8 .busy pe1
    have hpe : ({ r1 with state := .busy, pending := pe1 } : Loop) = { r1 with state := .busy } := by rw [← m3]
    rw [hpe] at i1 x1
    refine wpIn_mono (hbd w0 G1 a1 _ ⟨i1, k1.env⟩ (some B.b) ⟨B, hj1, rfl⟩) ?_
    rintro e3 a2 w2 ⟨rfl, G2, ms2, p1, p2, _, _⟩
    have hj2 := p2.le.j _ _ hj1
    obtain ⟨r2, q1, q2, q3, q4, q5, q6, q7, q8⟩ := p1.inv.loopAt h2 hj2
    obtain ⟨i2, x2⟩ := q8 (if j.isNone then .ready else .done) j
    have fin := hn G2 (.bool j.isNone) _ (.bool _) i2 (((k2.trans x1).trans p2).trans x2)
    cases e3 with
    | normal => simp only [jumpC, Option.some.injEq] at hj; subst hj; exact ⟨_, _, run_endRound none q1, fin⟩
    | ret => simp only [jumpC, Option.some.injEq] at hj; subst hj; exact ⟨_, _, run_endRound (some .ret) q1, fin⟩
    | exit id => simp only [jumpC, Option.some.injEq] at hj; subst hj; exact ⟨_, _, run_endRound (some (.exit id)) q1, fin⟩
    | goto l => simp only [jumpC, Option.some.injEq] at hj; subst hj; exact ⟨_, _, run_endRound (some (.goto l)) q1, fin⟩
    | panic ch => simp [jumpC] at hj
    | outgrown => simp [jumpC] at hj
  exact hR

theorem enterLoop_inner {P : Program} {w : World} {l0 : Nat} {r0 : Loop} (h : w.heap[l0]? = some (.loop r0)) (fn : FuncId) (tmps : Array Value) (ps : Array Tmp) (assign body : Code) :
    (Instr.enterLoop fn tmps ps assign body (some l0)).run P w = .ok (w.heap.size, []) (w.alloc (.loop { state := .ready, pending := none, fn, tmps, params := ps, assign, body, defers := r0.defers })) := by
  unfold Instr.enterLoop
  simp only [Sem.run_bind, run_getLoop h, run_newObj_alloc, Result.andThen, Sem.run_pure]

theorem codeS_rangeFunc {ro : Option Nat} {nt : Nat} {env : Env} {g : Operand} {ps : Array Tmp} {assign body : Code} {f : FuncId} {caps : List AV} {fn : Func} {c : Code} {r : AV} {σ1 : Sto} {st : LoopState} {j : Option Code} {e : Exit}
    (hg : ev C nt env g = .fn f caps) (hb : Body C.P f fn c) (hro : ∀ id0, ro = some id0 → ∃ L st pe, σ.get id0 = some (.loop L st pe))
    (hcall : CallS C f (.yld σ.next :: caps) (σ.add (.loop ⟨nt, env, ps, assign, body⟩ .ready none)) r σ1) (h1 : σ1.get σ.next = some (.loop ⟨nt, env, ps, assign, body⟩ st j)) (hst : st ≠ .busy) (hj : jumpC e = some j) :
    CodeS C ro nt (.rangeFunc g ps assign body) env σ e env (σ1.del σ.next) := by
  intro w0 G a w hrel cr hcr
  have hi := hrel.inv
  refine wpIn_rangeFunc fun fnr _ => ?_
  -- the record is laid
  obtain ⟨D, l, mark, w1, Gr, hent, hinv1, hext1, hB, hmark⟩ : ∃ (D : List Nat) (l : Nat) (mark : List Deferred) (w1 : World) (defers : Nat),
      (Instr.enterLoop fnr a.tmps ps assign body (FW cr).round).run C.P w = .ok (l, mark) (w1.alloc (.loop { state := .ready, pending := none, fn := fnr, tmps := a.tmps, params := ps, assign, body, defers })) ∧
      Inv C.gl w0 G σ w1 ∧ Ext G σ w G σ w1 ∧ l = w1.heap.size ∧ (mark = D.map mk ∧ Marks G σ w1 w.heap.size D) := by
    cases ro with
    | none =>
      cases cr with
      | none =>
        refine ⟨[w.heap.size], w.heap.size + 1, [mk w.heap.size], w.alloc (.deferred (some [])), w.heap.size, run_enterLoop_outer _ _ _ _ _, hi.other _, .other G σ _, by simp, rfl, List.nodup_cons.2 ⟨by simp, .nil⟩, fun r hr => ?_⟩
        simp only [List.mem_singleton] at hr
        subst hr
        exact ⟨Nat.le_refl _, World.alloc_heap_new w _, fun ho => absurd (Own.lt hi ho) (Nat.lt_irrefl _)⟩
      | some l0 => cases hcr
    | some id0 =>
      cases cr with
      | none => cases hcr
      | some l0 =>
        obtain ⟨B0, hB0, rfl⟩ := hcr
        obtain ⟨L0, st0, pe0, hs0⟩ := hro id0 rfl
        obtain ⟨r0, g1, _⟩ := hi.loopAt hs0 hB0
        exact ⟨[], w.heap.size, [], w, r0.defers, enterLoop_inner g1 _ _ _ _ _, hi, .refl G σ w, rfl, rfl, Marks.nil⟩
  subst hB
  obtain ⟨hmk, hms⟩ := hmark
  let rec0 : Loop := { state := .ready, pending := none, fn := fnr, tmps := a.tmps, params := ps, assign, body, defers := Gr }
  let B : Blk := ⟨w1.heap.size, 0, 0, 0⟩
  have hfr : G.j σ.next = none := hi.fresh _ (Nat.le_refl _)
  have hIno : ∀ k, G.I w1.heap.size k = none := fun k => by
    cases hk : G.I w1.heap.size k with
    | none => rfl
    | some v => exact absurd (hinv1.imm_lt hk) (Nat.lt_irrefl _)
  have hinv2 : Inv C.gl w0 (G.new σ.next B) (σ.add (.loop ⟨nt, env, ps, assign, body⟩ .ready none)) (w1.alloc (.loop rec0)) := by
    refine hinv1.new σ.next (σ.next + 1) _ B (.loop rec0) (by omega) (by omega) hfr rfl ?_
    exact ⟨rec0, World.alloc_heap_new w1 _, rfl, rfl, rfl, rfl, rfl, hrel.env.size, fun t ht => (hrel.env.rep t ht).mono (Gh.le_new B hfr), fun k => hIno k⟩
  have hext2 : Ext G σ w1 (G.new σ.next B) (σ.add (.loop ⟨nt, env, ps, assign, body⟩ .ready none)) (w1.alloc (.loop rec0)) := .new hinv1 (σ.next + 1) _ B (.loop rec0) (by omega) rfl
  have hgv := hrel.env.ev (C := C) hi g
  rw [hg] at hgv
  obtain ⟨cv, hcv, hlc, hrc⟩ : ∃ (cv : Array Value), a.eval g = .func (.func f) #[] cv ∧ cv.size = caps.length ∧ ∀ (i : Nat) (x : AV) (v : Value), caps[i]? = some x → cv[i]? = some v → Rep G x v := by
    generalize a.eval g = v at hgv
    cases hgv with
    | fn _ _ vs hl hv => exact ⟨vs, rfl, hl, hv⟩
  have hnm : ¬ (fn.name = "runtime.NumGoroutine") := by simpa using hb.name
  have hle := Gh.le_new B hfr
  have hjn : (G.new σ.next B).j σ.next = some B := by simp [Gh.new]
  refine ⟨w1.heap.size, mark, w1.alloc (.loop rec0), { target := .fn (.func f) cv, args := #[.func (.yield w1.heap.size) #[] #[]] }, w1.alloc (.loop rec0), f, #[.func (.yield w1.heap.size) #[] #[]] ++ cv, w1.alloc (.loop rec0), hent, ?_, fun _ _ => trivial, ?_, (fun h => by cases h), ?_⟩
  · have hev : ∀ v : Value, a.eval (.const v) = v := fun v => rfl
    simp [resolve, rangeCall, hcv, Deferred.ofValue, hev]
  · simp [invoke, callFunc, hb.here, hnm, hb.body]
  · have hsz : (#[Value.func (.yield w1.heap.size) #[] #[]] ++ cv).size = (AV.yld σ.next :: caps).length := by
      rw [Array.size_append, List.length_cons, hlc]; exact Nat.add_comm _ _
    have hrep : ∀ (i : Nat) (x : AV) (v : Value), (AV.yld σ.next :: caps)[i]? = some x → (#[Value.func (.yield w1.heap.size) #[] #[]] ++ cv)[i]? = some v → Rep (G.new σ.next B) x v := fun i x v hx hv => by
      cases i with
      | zero =>
        have hx' : x = AV.yld σ.next := by simpa using hx.symm
        have hv' : v = Value.func (.yield w1.heap.size) #[] #[] := by
          rw [Array.getElem?_append, if_pos (by simp)] at hv
          simpa using hv.symm
        subst hx'; subst hv'
        exact .yld _ B hjn
      | succ i =>
        have hv' : cv[i]? = some v := by
          rw [Array.getElem?_append, if_neg (by simp)] at hv
          simpa using hv
        exact (hrc i x v (by simpa using hx) hv').mono hle
    have hc := hcall w0 (G.new σ.next B) (w1.alloc (.loop rec0)) _ hinv2 hsz hrep
    refine callsIn_round cr _ (hc.mono ?_)
    rintro e2 w2 ⟨G2, v, rfl, k1, k2, k3⟩
    have hj2 : G2.j σ.next = some B := k3.le.j _ _ hjn
    obtain ⟨r2, m1, m2, m3, m4, m5, m6, m7, m8⟩ := k2.loopAt h1 hj2
    obtain ⟨i3, x3⟩ := m8 .exhausted j
    have hrun : (Instr.endLoop w1.heap.size).run C.P w2 = .ok j (w2.putObj w1.heap.size (.loop { r2 with state := .exhausted, pending := j })) := by
      have := run_endLoop (P := C.P) m1 (by rw [m2]; exact hst)
      rw [m3] at this
      exact this
    refine ⟨j, _, hrun, ?_⟩
    have hS : (σ1.set σ.next (.loop ⟨nt, env, ps, assign, body⟩ .exhausted j)).le (σ1.del σ.next) := ⟨rfl, fun i => by
      simp only [Sto.set, Sto.del]
      split
      · exact .inr rfl
      · exact .inl rfl⟩
    have i4 : Inv C.gl w0 G2 (σ1.del σ.next) _ := i3.forget hS
    have x4 : Ext G σ w G2 (σ1.del σ.next) _ := (((hext1.trans hext2).trans k3).trans x3).trans (Ext.forget hS)
    have x5 : Ext G σ w1 G2 (σ1.del σ.next) _ := ((hext2.trans k3).trans x3).trans (Ext.forget hS)
    have hpost : ∀ a' : Act, a'.tmps = a.tmps → a'.defers = mark ++ a.defers → ∃ G' ms, Rel C w0 G' nt env (σ1.del σ.next) a' (w2.putObj w1.heap.size (.loop { r2 with state := .exhausted, pending := j })) ∧
        Ext G σ w G' (σ1.del σ.next) (w2.putObj w1.heap.size (.loop { r2 with state := .exhausted, pending := j })) ∧ a'.defers = ms.map mk ++ a.defers ∧ Marks G' (σ1.del σ.next) (w2.putObj w1.heap.size (.loop { r2 with state := .exhausted, pending := j })) w.heap.size ms := fun a' ht hd =>
      ⟨G2, D, ⟨i4, by rw [ht]; exact hrel.env.mono x4.le⟩, x4, by rw [hd, hmk], hms.ext x5⟩
    cases e with
    | normal => simp only [jumpC, Option.some.injEq] at hj; subst hj; exact ⟨rfl, hpost _ rfl rfl⟩
    | ret => simp only [jumpC, Option.some.injEq] at hj; subst hj; exact wpIn_ret ⟨rfl, hpost _ rfl rfl⟩
    | exit id => simp only [jumpC, Option.some.injEq] at hj; subst hj; exact wpIn_exit ⟨rfl, hpost _ rfl rfl⟩
    | goto l => simp only [jumpC, Option.some.injEq] at hj; subst hj; exact wpIn_goto ⟨rfl, hpost _ rfl rfl⟩
    | panic ch => simp [jumpC] at hj
    | outgrown => simp [jumpC] at hj
end

/-- What a call of yield does. -/
def YStep (C : Cx) (id : Nat) (xs : List AV) (σ : Sto) (b : Bool) (σ' : Sto) : Prop :=
  ∀ (o : Oper) (ρ : Operand → AV) (f : Operand) (as : Array Operand) (ts : Array TypeId), o.op = .call { callee := .value f, args := as, argTypes := ts } → ρ f = .yld id → as.toList.map ρ = xs → OpStep C o ρ σ (.bool b) σ'

theorem callR_yield {C : Cx} {ρ : Operand → AV} {σ σ1 : Sto} {cl : Call} {K : AV → Sto → Prop} {f : Operand} {id : Nat} {xs : List AV} {b : Bool} (h : YStep C id xs σ b σ1)
    (hc : cl.callee = .value f) (hf : ρ f = .yld id) (ha : cl.args.toList.map ρ = xs) (hk : K (.bool b) σ1) : callR C ρ σ (.call cl) K :=
  ⟨.bool b, σ1, fun o ho => h o ρ f cl.args cl.argTypes (by rw [ho, ← hc]) hf ha, hk⟩

theorem callK_yield {C : Cx} {nt : Nat} {d : Option Nat} {cl : Call} {rs : List RO} {K : Env → Sto → Prop} {env : Env} {σ σ1 : Sto} {f : Operand} {id : Nat} {xs : List AV} {b : Bool} (h : YStep C id xs σ b σ1)
    (hc : cl.callee = .value f) (hf : ev C nt env f = .yld id) (ha : cl.args.toList.map (ev C nt env) = xs) (hk : wpr C nt rs K (putA env d (.bool b)) σ1) : callK C nt d cl rs K env σ :=
  callR_yield h hc hf ha hk

theorem yStep_of {C : Cx} {id : Nat} {L : LoopI} {pe0 : Option Code} {xs : List AV} {σ : Sto} {R : Bool → Sto → Prop} (hs : σ.get id = some (.loop L .ready pe0)) (hps : xs.length = L.ps.size)
    (h : WK C (some id) L.nt (toK L.assign) (fun e env1 σ1 => e = .normal ∧ ∃ pe1, σ1.get id = some (.loop L .ready pe1) ∧
      WK C (some id) L.nt (toK L.body) (fun e2 env2 σ2 => (∃ pe2, σ2.get id = some (.loop L .busy pe2)) ∧ ∃ j, jumpC e2 = some j ∧ R j.isNone (σ2.set id (.loop L (if j.isNone = true then .ready else .done) j))) env1 (σ1.set id (.loop L .busy pe1)))
      (bindP L.env L.ps.toList xs) σ) : ∃ b σ', YStep C id xs σ b σ' ∧ R b σ' := by
  obtain ⟨e, env1, σ1, h1, rfl, pe1, h2, h3⟩ := h L.assign rfl
  obtain ⟨e2, env2, σ2, h4, ⟨pe2, h5⟩, j, h6, h7⟩ := h3 L.body rfl
  refine ⟨_, _, fun o ρ f as ts ho hf ha => ?_, h7⟩
  refine opStep_yield ho hf hs (by rw [← hps, ← ha]; simp) (by rw [ha]; exact h1) h2 h4 h5 h6

theorem WK.rangeFunc {C : Cx} {ro : Option Nat} {nt : Nat} {Q : Exit → Env → Sto → Prop} {env : Env} {σ : Sto} {g : Operand} {ps : Array Tmp} {assign body : Code} {f : FuncId} {caps : List AV} {fn : Func} {c : Code}
    (hg : ev C nt env g = .fn f caps) (hb : Body C.P f fn c) (hro : ∀ id0, ro = some id0 → ∃ L st pe, σ.get id0 = some (.loop L st pe))
    (h : ∀ L : LoopI, L.nt = nt → L.env = env → L.ps = ps → toK L.assign = toK assign → toK L.body = toK body →
      ∃ r σ1, CallS C f (.yld σ.next :: caps) (σ.add (.loop L .ready none)) r σ1 ∧ ∃ st j e, σ1.get σ.next = some (.loop L st j) ∧ st ≠ .busy ∧ jumpC e = some j ∧ Q e env (σ1.del σ.next)) :
    WK C ro nt (.oth (.rangeFunc g ps assign body)) Q env σ := by
  intro c hc
  have hc' : c = .rangeFunc g ps assign body := by
    cases c with
    | region id' ops' d => cases d with
      | false => cases hc
      | true => simp only [toK, K.oth.injEq] at hc; cases hc
    | rangeFunc => simp only [toK, K.oth.injEq] at hc; exact hc
    | _ => first | (cases hc; done) | (simp only [toK, K.oth.injEq] at hc; exact hc)
  subst hc'
  obtain ⟨r, σ1, h1, st, j, e, h2, h3, h4, h5⟩ := h ⟨nt, env, ps, assign, body⟩ rfl rfl rfl rfl rfl
  exact ⟨e, env, _, codeS_rangeFunc hg hb hro h1 h2 h3 h4, h5⟩

theorem ex2 {α β : Type} {A : α → β → Prop} {P B : β → Prop} (h : ∃ r s, A r s ∧ P s) (k : ∀ s, P s → B s) : ∃ r s, A r s ∧ B s := by
  obtain ⟨r, s, h1, h2⟩ := h
  exact ⟨r, s, h1, k s h2⟩

/-! ### Things handed over, one by one, until it is said to be enough -/
def handT {T A : Type} (step : T → A → T) (go : T → Bool) : T → List A → T
  | t, [] => t
  | t, x :: xs => if go (step t x) = true then handT step go (step t x) xs else step t x

theorem handT_append {T A : Type} (step : T → A → T) (go : T → Bool) : ∀ (xs ys : List A) (t : T), go t = true → handT step go t (xs ++ ys) = if go (handT step go t xs) = true then handT step go (handT step go t xs) ys else handT step go t xs
  | [], ys, t, h => by simp [handT, h]
  | x :: xs, ys, t, h => by
    by_cases hg : go (step t x) = true
    · simp only [List.cons_append, handT, hg, if_true]; exact handT_append step go xs ys _ hg
    · simp [List.cons_append, handT, hg]

/-- What stands at numbers from m on is as it was. -/
structure Kept (m : Nat) (σ σ' : Sto) : Prop where
  get : ∀ i, m ≤ i → i < σ.next → σ'.get i = σ.get i
  next : σ.next ≤ σ'.next

theorem Kept.refl (m : Nat) (σ : Sto) : Kept m σ σ := ⟨fun _ _ _ => rfl, Nat.le_refl _⟩
theorem Kept.trans {m : Nat} {σ σ1 σ2 : Sto} (h : Kept m σ σ1) (k : Kept m σ1 σ2) : Kept m σ σ2 :=
  ⟨fun i h1 h2 => (k.get i h1 (Nat.lt_of_lt_of_le h2 h.next)).trans (h.get i h1 h2), Nat.le_trans h.next k.next⟩

theorem Kept.add (m : Nat) (σ : Sto) (o : AObj) : Kept m σ (σ.add o) := ⟨fun i _ h => by simp only [Sto.get_add]; rw [if_neg (by omega)], by simp [Sto.next_add]⟩
theorem Kept.set {m : Nat} {σ0 σ : Sto} (h : Kept m σ0 σ) (id : Nat) (o : AObj) (hid : id < m ∨ σ0.next ≤ id) : Kept m σ0 (σ.set id o) :=
  ⟨fun i h1 h2 => by simp only [Sto.get_set]; rw [if_neg (by omega)]; exact h.get i h1 h2, h.next⟩
theorem Kept.del {m : Nat} {σ0 σ : Sto} (h : Kept m σ0 σ) (id : Nat) (hid : id < m ∨ σ0.next ≤ id) : Kept m σ0 (σ.del id) :=
  ⟨fun i h1 h2 => by simp only [Sto.get_del]; rw [if_neg (by omega)]; exact h.get i h1 h2, h.next⟩

/-- One who is handed things: what is known of the store behind each; it hangs on what stands below m alone. -/
structure Taker (C : Cx) (id m : Nat) {T A : Type} (I : T → Sto → Prop) (step : T → A → T) (go : T → Bool) (enc : A → List AV) (xs : List A) : Prop where
  lt : id < m
  stable : ∀ t σ σ', I t σ → (∀ i, i < m → σ'.get i = σ.get i) → m ≤ σ'.next → I t σ'
  next : ∀ t σ, I t σ → m ≤ σ.next
  take : ∀ t σ x, x ∈ xs → I t σ → go t = true → ∃ σ', YStep C id (enc x) σ (go (step t x)) σ' ∧ I (step t x) σ' ∧ Kept m σ σ'
theorem Taker.add {C : Cx} {id m : Nat} {T A : Type} {I : T → Sto → Prop} {step : T → A → T} {go : T → Bool} {enc : A → List AV} {xs : List A} (h : Taker C id m I step go enc xs) {t : T} {σ : Sto} (hi : I t σ) (o : AObj) : I t (σ.add o) :=
  h.stable t σ _ hi (fun i hi' => by have := h.next t σ hi; simp only [Sto.get_add]; rw [if_neg (by omega)]) (by have := h.next t σ hi; simp only [Sto.next_add]; omega)
theorem Taker.set {C : Cx} {id m : Nat} {T A : Type} {I : T → Sto → Prop} {step : T → A → T} {go : T → Bool} {enc : A → List AV} {xs : List A} (h : Taker C id m I step go enc xs) {t : T} {σ : Sto} (hi : I t σ) (k : Nat) (o : AObj) (hk : m ≤ k) : I t (σ.set k o) :=
  h.stable t σ _ hi (fun i hi' => by simp only [Sto.get_set]; rw [if_neg (by omega)]) (by have := h.next t σ hi; simp only [Sto.next_set]; omega)
end Go.Lg
