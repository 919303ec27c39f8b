/- Lg, part Q: rules at exact states. -/
import Derived.Test.YtndchmmclfidgaaDoorLgP
import Derived.Test.YtndchmmclfidgaaDoorLgFm
set_option linter.unusedVariables false
set_option linter.unusedSimpArgs false
namespace Go.Lg
open Go.RowKit

theorem mkE_kept {env : Env} {us : List Nat} {vs : List AV} : ∀ {ts : List Nat} {t : Nat}, t ∈ ts → t ∉ us → envX env ts us vs t = env t := by
  intro ts t ht hu
  have hz : ∀ (us : List Nat) (vs : List AV), t ∉ us → mkE (us.zip vs ++ ts.map fun t => (t, env t)) t = mkE (ts.map fun t => (t, env t)) t := by
    intro us
    induction us with
    | nil => intro vs _; simp
    | cons u us ih =>
      intro vs hn
      cases vs with
      | nil => simp
      | cons v vs =>
        simp only [List.mem_cons, not_or] at hn
        simp only [List.zip_cons_cons, List.cons_append, mkE, upd]
        rw [if_neg hn.1]
        exact ih vs hn.2
  unfold envX
  rw [hz us vs hu]
  clear hz
  induction ts with
  | nil => cases ht
  | cons u ts ih =>
    simp only [List.map_cons, mkE, upd]
    split
    · rename_i e; rw [e]
    · rename_i e
      rcases List.mem_cons.1 ht with h | h
      · exact absurd h e
      · exact ih h

section
variable {C : Cx} {ro : Option Nat} {nt : Nat} {Q : Exit → Env → Sto → Prop} {env : Env} {σ : Sto}

/-- What is left of a segment at exact states. -/
def endX (ts us : List Nat) (env env' : Env) (vs : List AV) (σ σ' σ1 : Sto) : Prop := keptX env env' ts ∧ madeX σ1.next env' us vs ∧ Cut σ σ' σ1

theorem endX.cut {ts us : List Nat} {E env env' : Env} {vs : List AV} {σ0 σ' σ1 : Sto} (h : endX ts us env env' vs σ0 σ' σ1) (hE : ∀ t ∈ ts, env t = .undef ∨ E t = env t ∨ Bel σ1.next (env t)) :
    Cut σ0 σ' σ1 ∧ EnvC σ1.next E env' (envX env ts us vs) := ⟨h.2.2, envX_C hE h.1 h.2.1⟩

/-- How the first of two pieces ends where the second begins at one of many exact states. -/
def joinQ {T : Type} (ts us : List Nat) (env : Env) (σ : Sto) (V : T → List AV) (S : T → Sto) (I : T → Prop) (Q : Exit → Env → Sto → Prop) : Exit → Env → Sto → Prop
  | .normal => fun env' σ' => ∃ t, I t ∧ endX ts us env env' (V t) σ σ' (S t)
  | e => Q e

def joinQ1 (ts us : List Nat) (env : Env) (σ : Sto) (vs : List AV) (σ1 : Sto) (Q : Exit → Env → Sto → Prop) : Exit → Env → Sto → Prop
  | .normal => fun env' σ' => endX ts us env env' vs σ σ' σ1
  | e => Q e

theorem WK.joinX {T : Type} {x y : K} (ts us : List Nat) (V : T → List AV) (S : T → Sto) (I : T → Prop) (h1 : WK C ro nt x (joinQ ts us (pick env ts) σ V S I Q) env σ)
    (h2 : ∀ t, I t → WK C ro nt y Q (envX env ts us (V t)) (S t)) : WK C ro nt (.seq x y) Q env σ := by
  refine WK.seq (WK.cut (h1.mono fun e env' σ' h => ?_))
  cases e with
  | normal =>
    obtain ⟨t, ht, hx1, hx2⟩ := h
    have hx : endX ts us env env' (V t) σ σ' (S t) := ⟨keptX_pick hx1, hx2⟩
    obtain ⟨q1, q2⟩ := hx.cut (E := env) (fun t ht => .inr (.inl rfl))
    exact .inr ⟨_, _, q1, q2, h2 t ht⟩
  | _ => exact .inl h

/-- A loop at exact states. -/
def loopX {T : Type} (ts us : List Nat) (env : Env) (σ : Sto) (V : T → List AV) (S : T → Sto) (I : T → Prop) (μ : T → Nat) (n : Nat) (Q : Exit → Env → Sto → Prop) : Exit → Env → Sto → Prop
  | .normal => fun env' σ' => ∃ t, I t ∧ μ t < n ∧ endX ts us env env' (V t) σ σ' (S t)
  | e => Q e

theorem WK.loopX {T : Type} {k : K} (ts us : List Nat) (V : T → List AV) (S : T → Sto) (I : T → Prop) (μ : T → Nat) (t0 : T) (hd : (ts.all fun t => !us.contains t) = true) (h0 : I t0) (hl : leX env us (V t0)) (hS : S t0 = σ)
    (round : ∀ t, I t → WK C ro nt k (loopX ts us (pick env ts) (S t) V S I μ (μ t) Q) (envX env ts us (V t)) (S t)) : WK C ro nt (.loop k) Q env σ := by
  have hd' : ∀ t ∈ ts, t ∉ us := fun t ht hu => by
    have := List.all_eq_true.1 hd t ht
    simp [hu] at this
  refine WK.less (env1 := envX env ts us (V t0)) (σ1 := σ) (envX_less hl) ⟨rfl, fun i o h => .inl h⟩ ?_
  intro c hc
  cases c with
  | loop a =>
    simp only [toK, K.loop.injEq] at hc
    refine W.loop_by (S := T) (fun t => (envX env ts us (V t), S t)) t0 I μ (fun t => .inl rfl) (by rw [hS]; exact .refl _) h0 fun t ht => ?_
    have hr := WK.cut (Q := fun e env' σ' => (e = .normal ∧ ∃ t', I t' ∧ μ t' < μ t ∧ env' = envX env ts us (V t') ∧ σ' = S t') ∨ (e ≠ .normal ∧ Q e env' σ')) ((round t ht).mono fun e env' σ' h => by
      cases e with
      | normal =>
        obtain ⟨t', h1, h2, hx1, hx2⟩ := h
        have hx : endX ts us env env' (V t') (S t) σ' (S t') := ⟨keptX_pick hx1, hx2⟩
        obtain ⟨q1, q2⟩ := hx.cut (E := envX env ts us (V t)) (fun u hu => .inr (.inl (mkE_kept hu (hd' u hu))))
        exact .inr ⟨_, _, q1, q2, .inl ⟨rfl, t', h1, h2, rfl, rfl⟩⟩
      | _ => exact .inl (.inr ⟨(fun h => by cases h), h⟩))
    refine (hr a hc).mono fun e env' σ' h => ?_
    rcases h with ⟨rfl, t', h1, h2, rfl, rfl⟩ | h
    · exact .inl ⟨rfl, t', h1, h2, fun _ => .inl rfl, .refl _⟩
    · exact .inr h
  | region id ops d => cases d <;> cases hc
  | _ => cases hc

/-- What the body of a ranging loop comes to. -/
def stepX (B B2 ti tl : Nat) (n : Nat) (ts us : List Nat) (env : Env) (i : Nat) (V : Nat → List AV) (S : Nat → Sto) (I : Prop) (Q : Exit → Env → Sto → Prop) : Exit → Env → Sto → Prop
  | .normal => fun env' σ' => env' ti = .int .i64 i ∧ env' tl = .int .i64 n ∧ I ∧ endX ts us env env' (V (i + 1)) (S i) σ' (S (i + 1))
  | .exit id => fun env' σ' => if id = B2 then env' ti = .int .i64 i ∧ env' tl = .int .i64 n ∧ I ∧ endX ts us env env' (V (i + 1)) (S i) σ' (S (i + 1)) else Q (inBlk B (.exit id)) env' σ'
  | e => Q e

theorem madeX_upd {m d : Nat} {w : AV} {env : Env} : ∀ {us : List Nat} {vs : List AV}, d ∉ us → madeX m env us vs → madeX m (upd env d w) us vs
  | [], [], _, _ => trivial
  | u :: us, v :: vs, hd, h => by
    simp only [List.mem_cons, not_or] at hd
    refine ⟨?_, madeX_upd hd.2 h.2⟩
    have : upd env d w u = env u := by simp only [upd]; rw [if_neg (fun e => hd.1 e.symm)]
    rw [this]; exact h.1
theorem keptX_upd {d : Nat} {w : AV} {env env' : Env} : ∀ {ts : List Nat}, d ∉ ts → keptX env env' ts → keptX env (upd env' d w) ts
  | [], _, _ => trivial
  | u :: us, hd, h => by
    simp only [List.mem_cons, not_or] at hd
    refine ⟨?_, keptX_upd hd.2 h.2⟩
    have : upd env' d w u = env' u := by simp only [upd]; rw [if_neg (fun e => hd.1 e.symm)]
    rw [this]; exact h.1

/-- 'for i, x := range xs' at exact states. -/
theorem WK.rangeI {B B2 tc ti tl tn t1 t2 t3 t4 : Nat} {inner : K} (n : Nat) (ts us : List Nat) (V : Nat → List AV) (S : Nat → Sto) (I : Nat → Prop) (hI0 : I 0) (hn : n < 9223372036854775807)
    (hb : (decide (tc < nt) && decide (ti < nt) && decide (tl < nt) && decide (tn < nt) && ti != tc && tl != tc && ti != tn && tl != tn && tl != ti && ts.all (fun t => !us.contains t && t != ti && t != tn && t != tl) && us.all (fun t => t != ti && t != tn && t != tl)) = true)
    (hi : env ti = .int .i64 0) (hl : env tl = .int .i64 n) (h0 : leX env us (V 0)) (hS : S 0 = σ)
    (step : ∀ i, i < n → I i → WK C ro nt inner (stepX B B2 ti tl n ts us (pick env ts) i V S (I (i + 1)) Q) (upd (envX env ts (ti :: tl :: us) (.int .i64 i :: .int .i64 n :: V i)) tc (.bool (decide ((i : Int) < (n : Int))))) (S i))
    (done : I n → Q .normal (upd (envX env ts (ti :: tl :: us) (.int .i64 n :: .int .i64 n :: V n)) tc (.bool false)) (S n)) :
    WK C ro nt (.block B (.loop (.seq (.reg [⟨some tc, .binOp .lss t1 (.tmp ti) (.tmp tl) t2, none⟩])
      (.seq (.cond (.tmp tc) .skip (.exit B)) (.seq (.block B2 inner) (.reg [⟨some tn, .binOp .add t3 (.tmp ti) (.const (.int .i64 1)) t4, none⟩, ⟨some ti, .move (.tmp tn), none⟩])))))) Q env σ := by
  simp only [Bool.and_eq_true, decide_eq_true_eq, bne_iff_ne, ne_eq] at hb
  obtain ⟨⟨⟨⟨⟨⟨⟨⟨⟨⟨b1, b2⟩, b3⟩, b4⟩, d1⟩, d2⟩, d3⟩, d4⟩, d5⟩, a1⟩, a2⟩ := hb
  have hts : ∀ t ∈ ts, t ∉ us ∧ t ≠ ti ∧ t ≠ tn ∧ t ≠ tl := fun t ht => by
    have := List.all_eq_true.1 a1 t ht
    simp only [Bool.and_eq_true, Bool.not_eq_true', bne_iff_ne, ne_eq] at this
    obtain ⟨⟨⟨q1, q2⟩, q3⟩, q4⟩ := this
    refine ⟨fun h => ?_, q2, q3, q4⟩
    rw [List.contains_iff_mem.2 h] at q1; cases q1
  have hus : ∀ t ∈ us, t ≠ ti ∧ t ≠ tn ∧ t ≠ tl := fun t ht => by
    have := List.all_eq_true.1 a2 t ht
    simp only [Bool.and_eq_true, bne_iff_ne, ne_eq] at this
    exact ⟨this.1.1, this.1.2, this.2⟩
  refine WK.block ?_
  refine WK.loopX (T := Nat) ts (ti :: tl :: us) (fun (i : Nat) => .int .i64 i :: .int .i64 n :: V i) S (fun i => i ≤ n ∧ I i) (fun i => n - i) 0 ?_ ⟨Nat.zero_le _, hI0⟩ ⟨by rw [hi]; exact .refl _, by rw [hl]; exact .refl _, h0⟩ hS ?_
  · rw [List.all_eq_true]
    intro t ht
    obtain ⟨q1, q2, q3, q4⟩ := hts t ht
    simp [q1, q2, q4]
  rintro i ⟨hin, hIi⟩
  have e_i : envX env ts (ti :: tl :: us) (.int .i64 i :: .int .i64 n :: V i) ti = .int .i64 i := by simp [envX, mkE, upd]
  have e_l : envX env ts (ti :: tl :: us) (.int .i64 i :: .int .i64 n :: V i) tl = .int .i64 n := by simp [envX, mkE, upd, d5]
  generalize hE : envX env ts (ti :: tl :: us) (.int .i64 i :: .int .i64 n :: V i) = E at *
  refine WK.seq (WK.reg ?_)
  rw [wpr_op rfl]
  simp only [aop, ev, b2, b3, if_true, e_i, e_l, binA, aInt, wpr_nil, putA, true_and, andK_normal]
  refine WK.seq ?_
  refine WK.cond (decide ((i : Int) < (n : Int))) (by simp [ev, b1, upd]) (fun ht => ?_) (fun hf => ?_)
  · have hlt : i < n := by simpa using ht
    refine WK.skip ?_
    simp only [andK_normal]
    refine WK.seq (WK.block ?_)
    have st := step i hlt hIi
    rw [hE] at st
    refine st.mono ?_
    have fin : ∀ env' σ', env' ti = .int .i64 i ∧ env' tl = .int .i64 n ∧ I (i + 1) ∧ endX ts us (pick env ts) env' (V (i + 1)) (S i) σ' (S (i + 1)) →
        WK C ro nt (.reg [⟨some tn, .binOp .add t3 (.tmp ti) (.const (.int .i64 1)) t4, none⟩, ⟨some ti, .move (.tmp tn), none⟩])
          (Lg.loopX ts (ti :: tl :: us) (pick env ts) (S i) (fun (i : Nat) => .int .i64 i :: .int .i64 n :: V i) S (fun i => i ≤ n ∧ I i) (fun i => n - i) (n - i) (fun e => Q (inBlk B e))) env' σ' := by
      rintro env' σ' ⟨h1, h2, hI1, h3, h4, h5⟩
      refine WK.reg ?_
      rw [wpr_op rfl]
      simp only [aop, ev, b2, if_true, h1, ofV, ofV1, binA, aInt, putA, true_and]
      rw [wpr_op rfl]
      simp only [aop, ev, b4, if_true, wpr_nil, putA, true_and]
      have hw : IntKind.i64.wrap ((i : Int) + 1) = ((i + 1 : Nat) : Int) := by rw [wrap_lt (by omega) (by omega)]; rfl
      rw [hw]
      have hn1 : tn ∉ us := fun h => (hus tn h).2.1 rfl
      have hn2 : ti ∉ us := fun h => (hus ti h).1 rfl
      have hn3 : tn ∉ ts := fun h => (hts tn h).2.2.1 rfl
      have hn4 : ti ∉ ts := fun h => (hts ti h).2.1 rfl
      refine ⟨i + 1, ⟨hlt, hI1⟩, (by show n - (i + 1) < n - i; omega), keptX_upd hn4 (keptX_upd hn3 h3), ⟨⟨?_, .int _ _⟩, ⟨?_, .int _ _⟩, madeX_upd hn2 (madeX_upd hn1 h4)⟩, h5⟩
      · simp only [upd, if_true]; exact .refl _
      · simp only [upd]; rw [if_neg d5, if_neg d4, h2]; exact .refl _
    rintro e env' σ' hq
    cases e with
    | normal => exact fin _ _ hq
    | exit id =>
      simp only [stepX] at hq
      by_cases he : id = B2
      · rw [if_pos he] at hq
        rw [show inBlk B2 (.exit id) = .normal from if_pos he]
        exact fin _ _ hq
      · rw [if_neg he] at hq
        rw [show inBlk B2 (.exit id) = .exit id from if_neg he]
        exact hq
    | _ => exact hq
  · have hge : i = n := by
      have : ¬ ((i : Int) < (n : Int)) := by simpa using hf
      omega
    subst hge
    refine WK.exit ?_
    simp only [andK_exit]
    rw [hf]
    show Q (inBlk B (.exit B)) _ _
    simp only [inBlk, if_true]
    have dn := done hIi
    rw [hE] at dn
    exact dn

theorem WK.rangeX {B B2 tc ti tl tn t1 t2 t3 t4 : Nat} {inner : K} (n : Nat) (ts us : List Nat) (V : Nat → List AV) (S : Nat → Sto) (hn : n < 9223372036854775807)
    (hb : (decide (tc < nt) && decide (ti < nt) && decide (tl < nt) && decide (tn < nt) && ti != tc && tl != tc && ti != tn && tl != tn && tl != ti && ts.all (fun t => !us.contains t && t != ti && t != tn && t != tl) && us.all (fun t => t != ti && t != tn && t != tl)) = true)
    (hi : env ti = .int .i64 0) (hl : env tl = .int .i64 n) (h0 : leX env us (V 0)) (hS : S 0 = σ)
    (step : ∀ i, i < n → WK C ro nt inner (stepX B B2 ti tl n ts us (pick env ts) i V S True Q) (upd (envX env ts (ti :: tl :: us) (.int .i64 i :: .int .i64 n :: V i)) tc (.bool (decide ((i : Int) < (n : Int))))) (S i))
    (done : Q .normal (upd (envX env ts (ti :: tl :: us) (.int .i64 n :: .int .i64 n :: V n)) tc (.bool false)) (S n)) :
    WK C ro nt (.block B (.loop (.seq (.reg [⟨some tc, .binOp .lss t1 (.tmp ti) (.tmp tl) t2, none⟩])
      (.seq (.cond (.tmp tc) .skip (.exit B)) (.seq (.block B2 inner) (.reg [⟨some tn, .binOp .add t3 (.tmp ti) (.const (.int .i64 1)) t4, none⟩, ⟨some ti, .move (.tmp tn), none⟩])))))) Q env σ :=
  WK.rangeI n ts us V S (fun _ => True) trivial hn hb hi hl h0 hS (fun i hi _ => step i hi) fun _ => done
end

theorem leL.append : ∀ {a b c d : List AV}, leL a b → leL c d → leL (a ++ c) (b ++ d)
  | [], [], _, _, _, h => h
  | _ :: _, _ :: _, _, _, h, k => ⟨h.1, leL.append h.2 k⟩

/-- A call at an exact state. -/
structure CallX (C : Cx) (f : FuncId) (args : List AV) (σ : Sto) (r : AV) (σ1 : Sto) : Prop where
  here : ∃ fn c, Body C.P f fn c
  call : CallS C f args σ r σ1

theorem callX_of {C : Cx} {f : FuncId} {fn : Func} {c : Code} {args : List AV} {σ σ1 : Sto} {r : AV} (hb : Body C.P f fn c) (hl : args.length ≤ fn.ntmps)
    (h : W C none fn.ntmps c (fun e env' σ' => (e = .normal ∨ e = .ret) ∧ allP (resOK C fn.ntmps env' σ') fn.results.toList ∧ ((oneOr (fn.results.toList.map (resA C fn.ntmps env' σ'))).le r ∧ Bel σ1.next r) ∧ Cut σ σ' σ1) (env0 args) σ) : CallX C f args σ r σ1 := by
  obtain ⟨r', σ', h1, ⟨h2, h3⟩, h4⟩ := call_of (R := fun x σ' => (x.le r ∧ Bel σ1.next r) ∧ Cut σ σ' σ1) hb hl h
  exact ⟨⟨fn, c, hb⟩, h1.cut h2 h3 h4⟩

theorem PCall.callX {C : Cx} {f : FuncId} {args : List AV} {r : AV} (h : PCall C f args r) (σ : Sto) : CallX C f args σ r σ := ⟨h.here, h.callS σ⟩

theorem callK_x {C : Cx} {nt : Nat} {d : Option Nat} {cl : Call} {rs : List RO} {K : Env → Sto → Prop} {env : Env} {σ σ1 : Sto} {f : Operand} {g : FuncId} {caps args : List AV} {r : AV} (h : CallX C g (args ++ caps) σ r σ1)
    (hc : cl.callee = .value f) (hf : ev C nt env f = .fn g caps) (ha : leL (cl.args.toList.map (ev C nt env)) args) (hk : wpr C nt rs K (putA env d r) σ1) : callK C nt d cl rs K env σ := by
  obtain ⟨⟨fn, c, hb⟩, h⟩ := h
  refine callK_gen hb (args := cl.args.toList.map (ev C nt env)) (h.le (leL.append ha (leL.refl caps)) (.refl r)) hc hf rfl hk
/-- A list without room may be appended to. -/
theorem WK.own {C : Cx} {ro : Option Nat} {nt : Nat} {k : K} {Q : Exit → Env → Sto → Prop} {env : Env} {σ : Sto} (t es : Nat) {xs : List AV} (hlt : t < nt) (ht : env t = .list true xs)
    (h : WK C ro nt k Q (upd env t (.own σ.next xs)) (σ.add (.tok es xs.length))) : WK C ro nt k Q env σ := by
  intro c hc
  obtain ⟨e, env', σ', h1, h2⟩ := h c hc
  refine ⟨e, env', σ', fun w0 G a w hr cr hcr => ?_, h2⟩
  have hrt := hr.env.rep t hlt
  rw [ht] at hrt
  obtain ⟨G', k1, k2, k3, k4⟩ := own_new hr.inv hrt es
  refine wpIn_mono (h1 w0 G' a w ⟨k3, hr.env.size, fun u hu => ?_⟩ cr (hcr.mono k1)) fun e2 a' w' hp => ?_
  · simp only [upd]
    split
    · rename_i e; rw [e]; exact k2
    · exact (hr.env.rep u hu).mono k1
  · obtain ⟨g1, G2, ms, g2, g3, g4⟩ := hp
    exact ⟨g1, G2, ms, g2, k4.trans g3, g4⟩

/-- So may one in a variable in memory. -/
theorem WK.ownBox {C : Cx} {ro : Option Nat} {nt : Nat} {k : K} {Q : Exit → Env → Sto → Prop} {env : Env} {σ : Sto} (id j es : Nat) {cs : List AV} {xs : List AV} (hs : σ.get id = some (.box cs)) (ht : cs[j]? = some (.list true xs))
    (h : WK C ro nt k Q env ((σ.add (.tok es xs.length)).set id (.box (cs.set j (.own σ.next xs))))) : WK C ro nt k Q env σ := by
  intro c hc
  obtain ⟨e, env', σ', h1, h2⟩ := h c hc
  refine ⟨e, env', σ', fun w0 G a w hr cr hcr => ?_, h2⟩
  obtain ⟨B, hB⟩ := hr.inv.has id _ hs (fun es n e => by cases e)
  obtain ⟨hb, vs, ty, g1, g2, g3, g4⟩ := hr.inv.obj id _ B hs hB
  obtain ⟨v, hv, hrv⟩ := g3 j _ ht
  obtain ⟨G', k1, k2, k3, k4⟩ := own_new hr.inv hrv es
  have hlt := hr.inv.live id _ hs
  have hne : id ≠ σ.next := by omega
  have hs' : (σ.add (.tok es xs.length)).get id = some (.box cs) := by simp only [Sto.get_add]; rw [if_neg hne]; exact hs
  have hB' := k1.j _ _ hB
  obtain ⟨hb', vs', ty', q1, q2, q3, q4⟩ := k3.obj id _ B hs' hB'
  have hok : ObjOK G' B w (.box (cs.set j (.own σ.next xs))) := by
    refine ⟨vs', ty', q1, by simpa using q2, fun i c hc => ?_, q4⟩
    rw [List.getElem?_set] at hc
    split at hc
    · rename_i e
      subst e
      split at hc
      · cases hc
        rw [q1] at g1; cases g1
        exact ⟨v, hv, k2⟩
      · cases hc
    · exact q3 i c hc
  have i2 := k3.set id _ _ B hs' hB' rfl rfl rfl rfl (fun _ _ => rfl) (fun k v hI => by rw [q4 k] at hI; cases hI) hok
  have x2 : Ext G' (σ.add (.tok es xs.length)) w G' ((σ.add (.tok es xs.length)).set id (.box (cs.set j (.own σ.next xs)))) w := .set id _ _ B hs' hB' rfl (fun _ _ => rfl)
  refine wpIn_mono (h1 w0 G' a w ⟨i2, hr.env.size, fun u hu => (hr.env.rep u hu).mono k1⟩ cr (hcr.mono k1)) fun e2 a' w' hp => ?_
  obtain ⟨g1, G2, ms, g2, g3, g4⟩ := hp
  exact ⟨g1, G2, ms, g2, (k4.trans x2).trans g3, g4⟩

/-- As joinX, within a sequence. -/
theorem WK.joinA {C : Cx} {ro : Option Nat} {nt : Nat} {Q : Exit → Env → Sto → Prop} {env : Env} {σ : Sto} {T : Type} {x y : K} (ts us : List Nat) (V : T → List AV) (S : T → Sto) (I : T → Prop) (h1 : WK C ro nt x (joinQ ts us (pick env ts) σ V S I Q) env σ)
    (h2 : ∀ t, I t → WK C ro nt y Q (envX env ts us (V t)) (S t)) : WK C ro nt x (andK C ro nt y Q) env σ := by
  refine WK.cut (h1.mono fun e env' σ' h => ?_)
  cases e with
  | normal =>
    obtain ⟨t, ht, hx1, hx2⟩ := h
    have hx : endX ts us env env' (V t) σ σ' (S t) := ⟨keptX_pick hx1, hx2⟩
    obtain ⟨q1, q2⟩ := hx.cut (E := env) (fun t ht => .inr (.inl rfl))
    exact .inr ⟨_, _, q1, q2, h2 t ht⟩
  | _ => exact .inl h
/-- As joinA, at one state. -/
theorem WK.joinB {C : Cx} {ro : Option Nat} {nt : Nat} {Q : Exit → Env → Sto → Prop} {env : Env} {σ : Sto} {x y : K} (ts us : List Nat) (vs : List AV) (σ1 : Sto) (h1 : WK C ro nt x (joinQ1 ts us (pick env ts) σ vs σ1 Q) env σ)
    (h2 : WK C ro nt y Q (envX env ts us vs) σ1) : WK C ro nt x (andK C ro nt y Q) env σ :=
  WK.joinA (T := Unit) ts us (fun _ => vs) (fun _ => σ1) (fun _ => True) (h1.mono fun e env' σ' h => by
    cases e with
    | normal => exact ⟨(), trivial, h⟩
    | _ => exact h) fun _ _ => h2
theorem WK.own0 {C : Cx} {ro : Option Nat} {nt : Nat} {k : K} {Q : Exit → Env → Sto → Prop} {env : Env} {σ : Sto} (t es : Nat) (hlt : t < nt) (ht : env t = .list true [])
    (h : WK C ro nt k Q (upd env t (.own σ.next [])) (σ.add (.tok es 0))) : WK C ro nt k Q env σ := WK.own t es hlt ht h
theorem WK.ownBox0 {C : Cx} {ro : Option Nat} {nt : Nat} {k : K} {Q : Exit → Env → Sto → Prop} {env : Env} {σ : Sto} (id j es : Nat) {cs : List AV} (hs : σ.get id = some (.box cs)) (ht : cs[j]? = some (.list true []))
    (h : WK C ro nt k Q env ((σ.add (.tok es 0)).set id (.box (cs.set j (.own σ.next []))))) : WK C ro nt k Q env σ := WK.ownBox id j es hs ht h
theorem callK_x0 {C : Cx} {nt : Nat} {d : Option Nat} {cl : Call} {rs : List RO} {K : Env → Sto → Prop} {env : Env} {σ σ1 : Sto} {f : Operand} {g : FuncId} {args : List AV} {r : AV} (h : CallX C g args σ r σ1)
    (hc : cl.callee = .value f) (hf : ev C nt env f = .fn g []) (ha : leL (cl.args.toList.map (ev C nt env)) args) (hk : wpr C nt rs K (putA env d r) σ1) : callK C nt d cl rs K env σ :=
  callK_x (caps := []) (by rw [List.append_nil]; exact h) hc hf ha hk
theorem pcall_x {C : Cx} {f : FuncId} {args : List AV} {r : AV} (h : CallX C f args .none r .none) (hcl : ∀ x ∈ args, Closed x) (hclr : Closed r) : PCall C f args r := ⟨h.here, hcl, hclr, _, h.call⟩

/-! ### How it is reckoned -/
theorem le_refl' (a : AV) : a.le a = True := eq_true (.refl a)
theorem le_int' (k : IntKind) (m n : Int) : (AV.int k m).le (.int k n) = (m = n) := propext ⟨fun h => by
  have := h ⟨fun _ => none, fun _ _ => none, fun _ => none⟩ _ (.int k m)
  cases this; rfl, fun h => by rw [h]; exact .refl _⟩
theorem le_bool' (m n : Bool) : (AV.bool m).le (.bool n) = (m = n) := propext ⟨fun h => by
  have := h ⟨fun _ => none, fun _ _ => none, fun _ => none⟩ _ (.bool m)
  cases this; rfl, fun h => by rw [h]; exact .refl _⟩
theorem le_undef' (a : AV) : a.le .undef = True := eq_true (AV.le_undef a)
theorem bel_undef {m : Nat} : Bel m .undef = True := eq_true .undef
theorem bel_bool {m : Nat} (b : Bool) : Bel m (.bool b) = True := eq_true (.bool b)
theorem bel_int {m : Nat} (k : IntKind) (n : Int) : Bel m (.int k n) = True := eq_true (.int k n)
theorem bel_str {m : Nat} (s : ByteArray) : Bel m (.str s) = True := eq_true (.str s)
theorem bel_nilp {m : Nat} : Bel m .nilp = True := eq_true .nilp
theorem bel_nilf {m : Nat} : Bel m .nilf = True := eq_true .nilf
theorem bel_nilm {m : Nat} : Bel m .nilm = True := eq_true .nilm
theorem bel_nili {m : Nat} : Bel m .nili = True := eq_true .nili
theorem bel_ptr {m id k : Nat} : Bel m (.ptr id k) = (id < m) := propext ⟨fun h => by cases h; assumption, .ptr _ _⟩
theorem bel_row {m id o l : Nat} : Bel m (.row id o l) = (id < m) := propext ⟨fun h => by cases h; assumption, .row _ _ _⟩
theorem bel_map {m id : Nat} : Bel m (.map id) = (id < m) := propext ⟨fun h => by cases h; assumption, .map _⟩
theorem bel_yld {m id : Nat} : Bel m (.yld id) = (id < m) := propext ⟨fun h => by cases h; assumption, .yld _⟩
/-- Every element of the list. -/
def BelL (m : Nat) : List AV → Prop
  | [] => True
  | x :: xs => Bel m x ∧ BelL m xs
theorem belL_iff {m : Nat} : ∀ {l : List AV}, BelL m l ↔ ∀ c ∈ l, Bel m c
  | [] => ⟨fun _ c h => (by cases h), fun _ => trivial⟩
  | x :: xs => ⟨fun h c hc => by
      rcases List.mem_cons.1 hc with rfl | hc
      · exact h.1
      · exact belL_iff.1 h.2 c hc, fun h => ⟨h x List.mem_cons_self, belL_iff.2 fun c hc => h c (List.mem_cons_of_mem _ hc)⟩⟩
/-- Every element of the list, as elements of a list of the program. -/
def BelE (m : Nat) (l : List AV) : Prop := ∀ x ∈ l, ∀ c ∈ x.cells, Bel m c
theorem bel_agg {m : Nat} {cs : List AV} : Bel m (.agg cs) = BelL m cs := propext ⟨fun h => by cases h; exact belL_iff.2 ‹_›, fun h => .agg _ (belL_iff.1 h)⟩
theorem bel_tup {m : Nat} {cs : List AV} : Bel m (.tup cs) = BelL m cs := propext ⟨fun h => by cases h; exact belL_iff.2 ‹_›, fun h => .tup _ (belL_iff.1 h)⟩
theorem bel_fn {m : Nat} {f : FuncId} {cs : List AV} : Bel m (.fn f cs) = BelL m cs := propext ⟨fun h => by cases h; exact belL_iff.2 ‹_›, fun h => .fn _ _ (belL_iff.1 h)⟩
theorem bel_list {m : Nat} {f : Bool} {xs : List AV} : Bel m (.list f xs) = BelE m xs := propext ⟨fun h => by cases h; assumption, .list _ _⟩
theorem bel_own {m id : Nat} {xs : List AV} : Bel m (.own id xs) = (id < m ∧ BelE m xs) := propext ⟨fun h => by cases h; exact ⟨‹_›, ‹_›⟩, fun h => .own _ _ h.1 h.2⟩
theorem belL_nil {m : Nat} : BelL m [] = True := (rfl)
theorem belL_cons {m : Nat} {x : AV} {xs : List AV} : BelL m (x :: xs) = (Bel m x ∧ BelL m xs) := (rfl)
theorem belE_nil {m : Nat} : BelE m [] = True := eq_true (fun x h => by cases h)
theorem belE_append {m : Nat} {xs ys : List AV} : BelE m (xs ++ ys) = (BelE m xs ∧ BelE m ys) := propext ⟨fun h => ⟨fun x hx => h x (List.mem_append_left _ hx), fun x hx => h x (List.mem_append_right _ hx)⟩, fun h x hx => by
  rcases List.mem_append.1 hx with h' | h'
  · exact h.1 x h'
  · exact h.2 x h'⟩
theorem belE_cons {m : Nat} {x : AV} {xs : List AV} : BelE m (x :: xs) = (BelL m x.cells ∧ BelE m xs) := propext ⟨fun h => ⟨belL_iff.2 (h x List.mem_cons_self), fun y hy => h y (List.mem_cons_of_mem _ hy)⟩, fun h y hy => by
  rcases List.mem_cons.1 hy with rfl | hy
  · exact belL_iff.1 h.1
  · exact h.2 y hy⟩
theorem belE_map {A : Type} {m : Nat} {f : A → AV} (hf : ∀ a, Closed (f a)) (l : List A) : BelE m (l.map f) := fun x hx c hc => by
  obtain ⟨a, _, rfl⟩ := List.mem_map.1 hx
  have h := hf a
  generalize hv : f a = v at *
  cases v with
  | agg cs => cases h with | agg _ h => exact (h c hc).bel
  | _ => simp only [AV.cells, List.mem_singleton] at hc; subst hc; exact h.bel
theorem belE_ints {m : Nat} {k : IntKind} (l : List Int) : BelE m (l.map (AV.int k)) = True := eq_true (belE_map (fun _ => .int _ _) l)
theorem belO_box {m : Nat} {cs : List AV} : BelO m (.box cs) = BelL m cs := propext ⟨belL_iff.2, belL_iff.1⟩
theorem belO_row {m es : Nat} {xs : List AV} {f : Bool} : BelO m (.row es xs f) = BelE m xs := (rfl)
theorem belO_tok {m es n : Nat} : BelO m (.tok es n) = True := (rfl)
theorem mkE_nil : mkE [] = fun _ => .undef := (rfl)
theorem mkE_cons {t : Nat} {v : AV} {l : List (Nat × AV)} : mkE ((t, v) :: l) = upd (mkE l) t v := (rfl)
theorem keptX_nil {env env' : Env} : keptX env env' [] = True := (rfl)
theorem keptX_cons {env env' : Env} {t : Nat} {ts : List Nat} : keptX env env' (t :: ts) = ((env' t).le (env t) ∧ keptX env env' ts) := (rfl)
theorem leX_nil {env : Env} : leX env [] [] = True := (rfl)
theorem leX_cons {env : Env} {u : Nat} {us : List Nat} {v : AV} {vs : List AV} : leX env (u :: us) (v :: vs) = ((env u).le v ∧ leX env us vs) := (rfl)
theorem madeX_nil {m : Nat} {env : Env} : madeX m env [] [] = True := (rfl)
theorem madeX_cons {m : Nat} {env : Env} {u : Nat} {us : List Nat} {v : AV} {vs : List AV} : madeX m env (u :: us) (v :: vs) = (((env u).le v ∧ Bel m v) ∧ madeX m env us vs) := (rfl)
theorem leL_nil : leL [] [] = True := (rfl)
theorem leL_cons {a b : AV} {as bs : List AV} : leL (a :: as) (b :: bs) = (a.le b ∧ leL as bs) := (rfl)
section
variable {T : Type} {ts us : List Nat} {env : Env} {σ : Sto} {V : T → List AV} {W : Nat → List AV} {S : T → Sto} {Z : Nat → Sto} {I : T → Prop} {J : Prop} {μ : T → Nat} {n i B B2 ti tl id : Nat} {Q : Exit → Env → Sto → Prop}
theorem joinQ1_normal {vs : List AV} {σ1 : Sto} : joinQ1 ts us env σ vs σ1 Q .normal = fun env' σ' => endX ts us env env' vs σ σ' σ1 := (rfl)
theorem joinQ1_ret {vs : List AV} {σ1 : Sto} : joinQ1 ts us env σ vs σ1 Q .ret = Q .ret := (rfl)
theorem joinQ1_exit {vs : List AV} {σ1 : Sto} : joinQ1 ts us env σ vs σ1 Q (.exit id) = Q (.exit id) := (rfl)
theorem joinQ_normal : joinQ ts us env σ V S I Q .normal = fun env' σ' => ∃ t, I t ∧ endX ts us env env' (V t) σ σ' (S t) := (rfl)
theorem joinQ_ret : joinQ ts us env σ V S I Q .ret = Q .ret := (rfl)
theorem joinQ_exit : joinQ ts us env σ V S I Q (.exit id) = Q (.exit id) := (rfl)
theorem loopX_normal : loopX ts us env σ V S I μ n Q .normal = fun env' σ' => ∃ t, I t ∧ μ t < n ∧ endX ts us env env' (V t) σ σ' (S t) := (rfl)
theorem loopX_ret : loopX ts us env σ V S I μ n Q .ret = Q .ret := (rfl)
theorem loopX_exit : loopX ts us env σ V S I μ n Q (.exit id) = Q (.exit id) := (rfl)
theorem stepX_normal : stepX B B2 ti tl n ts us env i W Z J Q .normal = fun env' σ' => env' ti = .int .i64 i ∧ env' tl = .int .i64 n ∧ J ∧ endX ts us env env' (W (i + 1)) (Z i) σ' (Z (i + 1)) := (rfl)
theorem stepX_exit : stepX B B2 ti tl n ts us env i W Z J Q (.exit id) = fun env' σ' => if id = B2 then env' ti = .int .i64 i ∧ env' tl = .int .i64 n ∧ J ∧ endX ts us env env' (W (i + 1)) (Z i) σ' (Z (i + 1)) else Q (inBlk B (.exit id)) env' σ' := (rfl)
theorem stepX_ret : stepX B B2 ti tl n ts us env i W Z J Q .ret = Q .ret := (rfl)
end
theorem Sto.set_add' {σ : Sto} {id : Nat} {o o' : AObj} (h : id = σ.next) : (σ.add o).set id o' = σ.add o' := by rw [h]; exact Sto.set_add σ o o'
theorem Sto.set_add_ne {σ : Sto} {id : Nat} {o o' : AObj} (h : (id = σ.next) = False) : (σ.add o).set id o' = (σ.set id o').add o := by
  simp only [Sto.set, Sto.add, Sto.mk.injEq, and_true]
  funext i
  by_cases e : i = id
  · have hne : ¬ i = σ.next := by rw [e, h]; exact fun x => x
    simp [e, h]
  · simp [e]
theorem Sto.ext' {a b : Sto} (h1 : a.next = b.next) (h2 : ∀ i, a.get i = b.get i) : a = b := by
  cases a; cases b
  simp only [Sto.mk.injEq]
  exact ⟨funext h2, h1⟩
theorem Cut.by' {σ σ' σ1 : Sto} (n1 : σ.next ≤ σ1.next) (n2 : σ1.next ≤ σ'.next) (hi : ∀ i, σ1.next ≤ i → σ1.get i = none ∨ σ1.get i = σ.get i)
    (lo : ∀ i o, i < σ1.next → σ1.get i = some o → σ'.get i = some o ∧ (σ.get i = some o ∨ BelO σ1.next o)) : Cut σ σ' σ1 :=
  ⟨n1, n2, hi, fun i o h1 h2 => ⟨⟨o, (lo i o h1 h2).1, .inl rfl⟩, (lo i o h1 h2).2⟩⟩

/-! ### append -/
/-- An element of es cells, none of which is more than one cell. -/
def OKE (es : Nat) (x : AV) : Prop := x.cells.length = es ∧ x.cells.all AV.one = true
def OKEs (es : Nat) (xs : List AV) : Prop := ∀ x ∈ xs, OKE es x
theorem oke_int {k : IntKind} {n : Int} : OKE 1 (.int k n) = True := eq_true ⟨rfl, rfl⟩
theorem oke_bool {b : Bool} : OKE 1 (.bool b) = True := eq_true ⟨rfl, rfl⟩
theorem oke_str {b : ByteArray} : OKE 1 (.str b) = True := eq_true ⟨rfl, rfl⟩
theorem oke_list {f : Bool} {xs : List AV} : OKE 1 (.list f xs) = True := eq_true ⟨rfl, rfl⟩
theorem oke_own {f : Nat} {xs : List AV} : OKE 1 (.own f xs) = True := eq_true ⟨rfl, rfl⟩
theorem oke_ptr {f k : Nat} : OKE 1 (.ptr f k) = True := eq_true ⟨rfl, rfl⟩
theorem oke_encF {f : Fm} : OKE 3 (encF f) = True := eq_true (by rw [encF_eq]; exact ⟨rfl, rfl⟩)
theorem oke_agg {es : Nat} {cs : List AV} : OKE es (.agg cs) = (cs.length = es ∧ cs.all AV.one = true) := (rfl)
theorem okes_nil {es : Nat} : OKEs es [] = True := eq_true (fun x h => by cases h)
theorem okes_cons {es : Nat} {x : AV} {xs : List AV} : OKEs es (x :: xs) = (OKE es x ∧ OKEs es xs) := propext ⟨fun h => ⟨h x List.mem_cons_self, fun y hy => h y (List.mem_cons_of_mem _ hy)⟩, fun h y hy => by
  rcases List.mem_cons.1 hy with rfl | hy
  · exact h.1
  · exact h.2 y hy⟩
theorem okes_append {es : Nat} {xs ys : List AV} : OKEs es (xs ++ ys) = (OKEs es xs ∧ OKEs es ys) := propext ⟨fun h => ⟨fun x hx => h x (List.mem_append_left _ hx), fun x hx => h x (List.mem_append_right _ hx)⟩, fun h x hx => by
  rcases List.mem_append.1 hx with h' | h'
  · exact h.1 x h'
  · exact h.2 x h'⟩
theorem okes_map {A : Type} {es : Nat} {f : A → AV} {l : List A} (h : ∀ a, OKE es (f a)) : OKEs es (l.map f) := fun x hx => by
  obtain ⟨a, _, rfl⟩ := List.mem_map.1 hx
  exact h a
theorem okes_encFs {l : List Fm} : OKEs 3 (encFs l) = True := eq_true (by
  induction l with
  | nil => exact fun x h => by cases h
  | cons f l ih =>
    intro x hx
    rcases List.mem_cons.1 hx with rfl | hx
    · rw [oke_encF]; trivial
    · exact ih x hx)
theorem srcA_list {C : Cx} {σ : Sto} {t es : Nat} {f : Bool} {xs : List AV} (h1 : (slE C t).isSome = true) (h2 : OKEs es xs) : (srcA C σ t es (.list f xs)).1 ∧ (srcA C σ t es (.list f xs)).2 = xs := ⟨⟨h1, fun y hy => (h2 y hy).1, fun y hy => (h2 y hy).2⟩, rfl⟩
theorem srcA_own {C : Cx} {σ : Sto} {t es : Nat} {f : Nat} {xs : List AV} (h1 : (slE C t).isSome = true) (h2 : OKEs es xs) : (srcA C σ t es (.own f xs)).1 ∧ (srcA C σ t es (.own f xs)).2 = xs := ⟨⟨h1, fun y hy => (h2 y hy).1, fun y hy => (h2 y hy).2⟩, rfl⟩

theorem appK_aop {C : Cx} {nt : Nat} {d : Option Nat} {as : Array Operand} {ts : Array TypeId} {rs : List RO} {K : Env → Sto → Prop} {env : Env} {σ : Sto}
    (h : (aop C (ev C nt env) σ (.call ⟨.builtin .append, as, ts⟩)).c ∧ wpr C nt rs K (putA env d (aop C (ev C nt env) σ (.call ⟨.builtin .append, as, ts⟩)).v) (aop C (ev C nt env) σ (.call ⟨.builtin .append, as, ts⟩)).s) : appK C nt d as ts rs K env σ :=
  ⟨_, _, fun o ho => by
    have ho' : o.op = .call ⟨.builtin .append, as, ts⟩ := ho
    have h1 := h.1
    rw [← ho'] at h1 ⊢; exact opStep_of_snd aop_sound h1 (aop_noDefer h1), h.2⟩
theorem appD_aop {C : Cx} {nt : Nat} {d : Option Nat} {as : Array Operand} {ts : Array TypeId} {rs : List (RO × DF)} {hist : List Sto} {ob : Obl} {K : Env → Sto → Prop} {env : Env} {σ : Sto}
    (h : (aop C (ev C nt env) σ (.call ⟨.builtin .append, as, ts⟩)).c ∧ oblOK (aop C (ev C nt env) σ (.call ⟨.builtin .append, as, ts⟩)).s ob ∧ wpD C nt K rs (σ :: hist) (oblDec ob) (putA env d (aop C (ev C nt env) σ (.call ⟨.builtin .append, as, ts⟩)).v) (aop C (ev C nt env) σ (.call ⟨.builtin .append, as, ts⟩)).s) : appD C nt d as ts rs hist ob K env σ :=
  ⟨_, _, fun o ho => by
    have ho' : o.op = .call ⟨.builtin .append, as, ts⟩ := ho
    have h1 := h.1
    rw [← ho'] at h1 ⊢; exact opStep_of_snd aop_sound h1 (aop_noDefer h1), h.2⟩
/-- What may be appended to: the store's entry. -/
theorem appK_own {C : Cx} {nt : Nat} {d : Option Nat} {rs : List RO} {K : Env → Sto → Prop} {env : Env} {σ : Sto} {s x : Operand} {t t2 : TypeId} {ei : TyI} {id es n : Nat} {xs ys : List AV}
    (hs : slE C t = some ei) (hv : ev C nt env s = .own id xs) (hg : σ.get id = some (.tok es n)) (he : es = ei.size) (hn : n = xs.length) (hok : OKEs es xs) {f : Bool} (hx : (ev C nt env x).fz = .list f ys) (ht2 : (slE C t2).isSome = true) (hy : OKEs es ys)
    (hz : ei.zero.cells.size = ei.size) (hb : (n + ys.length) * ei.bytes ≤ 140737488355328) (hb2 : n + ys.length ≤ 9223372036854775807)
    (hk : wpr C nt rs K (putA env d (.own id (xs ++ ys))) (σ.set id (.tok es (n + ys.length)))) : appK C nt d #[s, x] #[t, t2] rs K env σ := by
  subst he
  have hsrc : (srcA C σ t2 ei.size (ev C nt env x)).1 ∧ (srcA C σ t2 ei.size (ev C nt env x)).2 = ys := by
    generalize ev C nt env x = v at hx
    cases v with
    | own id' zs => simp only [AV.fz, AV.list.injEq] at hx; obtain ⟨_, rfl⟩ := hx; exact srcA_own ht2 hy
    | list f' zs => simp only [AV.fz, AV.list.injEq] at hx; obtain ⟨_, rfl⟩ := hx; exact srcA_list ht2 hy
    | _ => simp [AV.fz] at hx
  have e : aop C (ev C nt env) σ (.call ⟨.builtin .append, #[s, x], #[t, t2]⟩) = appA C σ t2 ei (ev C nt env s) (ev C nt env x) := by
    show (match slE C t with | some ei => appA C σ t2 ei (ev C nt env s) (ev C nt env x) | none => bad σ) = _
    rw [hs]
  refine appK_aop ?_
  rw [e, hv]
  have ea : appA C σ t2 ei (.own id xs) (ev C nt env x) = ⟨(srcA C σ t2 ei.size (ev C nt env x)).1 ∧ n = xs.length ∧ ei.size = ei.size ∧ (∀ x ∈ xs, x.cells.length = ei.size) ∧ (∀ x ∈ xs, x.cells.all AV.one = true) ∧ ei.zero.cells.size = ei.size ∧
        (xs.length + (srcA C σ t2 ei.size (ev C nt env x)).2.length) * ei.bytes ≤ 140737488355328 ∧ xs.length + (srcA C σ t2 ei.size (ev C nt env x)).2.length ≤ 9223372036854775807,
        .own id (xs ++ (srcA C σ t2 ei.size (ev C nt env x)).2), σ.set id (.tok ei.size (n + (srcA C σ t2 ei.size (ev C nt env x)).2.length))⟩ := by simp only [appA, hg]
  rw [ea, hsrc.2]
  exact ⟨⟨hsrc.1, hn, rfl, fun x hx => (hok x hx).1, fun x hx => (hok x hx).2, hz, by rw [← hn]; exact hb, by rw [← hn]; exact hb2⟩, hk⟩
/-- What append comes to, of a list without room or one that is appended to. -/
theorem append_res {C : Cx} {ρ : Operand → AV} {σ : Sto} {s x : Operand} {t t2 : TypeId} {ei : TyI} {id es n : Nat} {xs ys : List AV} {f : Bool}
    (hs : slE C t = some ei) (hx : (ρ x).fz = .list f ys) (ht2 : (slE C t2).isSome = true) (hy : OKEs ei.size ys) (hz : ei.zero.cells.size = ei.size) (hok : OKEs ei.size xs)
    (hv : (ρ s = .own id xs ∧ σ.get id = some (.tok es n) ∧ es = ei.size ∧ n = xs.length) ∨ (ρ s = .list true xs ∧ id = σ.next ∧ n = xs.length))
    (hb : (n + ys.length) * ei.bytes ≤ 140737488355328) (hb2 : n + ys.length ≤ 9223372036854775807) :
    (aop C ρ σ (.call ⟨.builtin .append, #[s, x], #[t, t2]⟩)).c ∧ (aop C ρ σ (.call ⟨.builtin .append, #[s, x], #[t, t2]⟩)).v = .own id (xs ++ ys) ∧
      ((ρ s = .own id xs ∧ (aop C ρ σ (.call ⟨.builtin .append, #[s, x], #[t, t2]⟩)).s = σ.set id (.tok es (n + ys.length))) ∨ (ρ s = .list true xs ∧ (aop C ρ σ (.call ⟨.builtin .append, #[s, x], #[t, t2]⟩)).s = σ.add (.tok ei.size (n + ys.length)))) := by
  have hsrc : (srcA C σ t2 ei.size (ρ x)).1 ∧ (srcA C σ t2 ei.size (ρ x)).2 = ys := by
    generalize ρ x = v at hx
    cases v with
    | own id' zs => simp only [AV.fz, AV.list.injEq] at hx; obtain ⟨_, rfl⟩ := hx; exact srcA_own ht2 hy
    | list f' zs => simp only [AV.fz, AV.list.injEq] at hx; obtain ⟨_, rfl⟩ := hx; exact srcA_list ht2 hy
    | _ => simp [AV.fz] at hx
  have e : aop C ρ σ (.call ⟨.builtin .append, #[s, x], #[t, t2]⟩) = appA C σ t2 ei (ρ s) (ρ x) := by
    show (match slE C t with | some ei => appA C σ t2 ei (ρ s) (ρ x) | none => bad σ) = _
    rw [hs]
  rw [e]
  rcases hv with ⟨h1, h2, h3, h4⟩ | ⟨h1, h2, h4⟩
  · rw [h1]
    simp only [appA, h2, hsrc.2]
    subst h3
    exact ⟨⟨hsrc.1, h4, rfl, fun x hx => (hok x hx).1, fun x hx => (hok x hx).2, hz, by rw [← h4]; exact hb, by rw [← h4]; exact hb2⟩, by simp, .inl (by simp)⟩
  · rw [h1]
    simp only [appA, hsrc.2]
    subst h2
    refine ⟨⟨hsrc.1, fun x hx => (hok x hx).1, fun x hx => (hok x hx).2, hz, by rw [← h4]; exact hb, by rw [← h4]; exact hb2⟩, by simp, .inr (by simp [h4])⟩
theorem appK_full {C : Cx} {nt : Nat} {d : Option Nat} {rs : List RO} {K : Env → Sto → Prop} {env : Env} {σ : Sto} {s x : Operand} {t t2 : TypeId} {ei : TyI} {xs ys : List AV} {f : Bool}
    (hs : slE C t = some ei) (hv : ev C nt env s = .list true xs) (hok : OKEs ei.size xs) (hx : (ev C nt env x).fz = .list f ys) (ht2 : (slE C t2).isSome = true) (hy : OKEs ei.size ys)
    (hz : ei.zero.cells.size = ei.size) (hb : (xs.length + ys.length) * ei.bytes ≤ 140737488355328) (hb2 : xs.length + ys.length ≤ 9223372036854775807)
    (hk : wpr C nt rs K (putA env d (.own σ.next (xs ++ ys))) (σ.add (.tok ei.size (xs.length + ys.length)))) : appK C nt d #[s, x] #[t, t2] rs K env σ := by
  obtain ⟨h1, h2, h3⟩ := append_res (ρ := ev C nt env) (σ := σ) (id := σ.next) (es := 0) hs hx ht2 hy hz hok (.inr ⟨hv, rfl, rfl⟩) hb hb2
  refine appK_aop ?_
  rw [h2]
  rcases h3 with ⟨h3, _⟩ | ⟨_, h3⟩
  · rw [hv] at h3; cases h3
  · rw [h3]; exact ⟨h1, hk⟩
/-- To a list without room, where the outcome is written afterwards. -/
theorem appK_row {C : Cx} {nt : Nat} {d : Option Nat} {rs : List RO} {K : Env → Sto → Prop} {env : Env} {σ : Sto} {s x : Operand} {t t2 : TypeId} {ei : TyI} {xs ys : List AV} {f : Bool}
    (hs : slE C t = some ei) (hv : ev C nt env s = .list true xs) (hok : OKEs ei.size xs) (hx : (ev C nt env x).fz = .list f ys) (ht2 : (slE C t2).isSome = true) (hy : OKEs ei.size ys) (hne : ys ≠ [])
    (hz : ei.zero.cells.size = ei.size) (hb : (xs.length + ys.length) * ei.bytes ≤ 140737488355328) (hb2 : xs.length + ys.length ≤ 9223372036854775807)
    (hk : wpr C nt rs K (putA env d (.row σ.next 0 (xs.length + ys.length))) (σ.add (.row ei.size (xs ++ ys) false))) : appK C nt d #[s, x] #[t, t2] rs K env σ := by
  have hsrc : (srcA C σ t2 ei.size (ev C nt env x)).1 ∧ (srcA C σ t2 ei.size (ev C nt env x)).2 = ys := by
    generalize ev C nt env x = v at hx
    cases v with
    | own id' zs => simp only [AV.fz, AV.list.injEq] at hx; obtain ⟨_, rfl⟩ := hx; exact srcA_own ht2 hy
    | list f' zs => simp only [AV.fz, AV.list.injEq] at hx; obtain ⟨_, rfl⟩ := hx; exact srcA_list ht2 hy
    | _ => simp [AV.fz] at hx
  obtain ⟨ti, e, ht, hd, he⟩ := slE_some hs
  refine ⟨_, _, fun o ho => ?_, hk⟩
  have hsnd := snd_append_full (σ := σ) (ρ := ev C nt env) (ys := ys) ht hd he ho hv fun w0 G a w hi hr => by
    have := srcA_ok hsrc.1 hi hr
    rw [hsrc.2] at this; exact this
  refine opStep_of_snd hsnd ⟨hne, fun x hx => (hok x hx).1, fun x hx => (hok x hx).2, hz, hb, hb2⟩ (fun c hc => ?_)
  rw [ho] at hc; cases hc
theorem appD_full {C : Cx} {nt : Nat} {d : Option Nat} {rs : List (RO × DF)} {hist : List Sto} {ob : Obl} {K : Env → Sto → Prop} {env : Env} {σ : Sto} {s x : Operand} {t t2 : TypeId} {ei : TyI} {xs ys : List AV} {f : Bool}
    (hs : slE C t = some ei) (hv : ev C nt env s = .list true xs) (hok : OKEs ei.size xs) (hx : (ev C nt env x).fz = .list f ys) (ht2 : (slE C t2).isSome = true) (hy : OKEs ei.size ys)
    (hz : ei.zero.cells.size = ei.size) (hb : (xs.length + ys.length) * ei.bytes ≤ 140737488355328) (hb2 : xs.length + ys.length ≤ 9223372036854775807)
    (hk : oblOK (σ.add (.tok ei.size (xs.length + ys.length))) ob ∧ wpD C nt K rs (σ :: hist) (oblDec ob) (putA env d (.own σ.next (xs ++ ys))) (σ.add (.tok ei.size (xs.length + ys.length)))) : appD C nt d #[s, x] #[t, t2] rs hist ob K env σ := by
  obtain ⟨h1, h2, h3⟩ := append_res (ρ := ev C nt env) (σ := σ) (id := σ.next) (es := 0) hs hx ht2 hy hz hok (.inr ⟨hv, rfl, rfl⟩) hb hb2
  refine appD_aop ?_
  rw [h2]
  rcases h3 with ⟨h3, _⟩ | ⟨_, h3⟩
  · rw [hv] at h3; cases h3
  · rw [h3]; exact ⟨h1, hk⟩
theorem appD_own {C : Cx} {nt : Nat} {d : Option Nat} {rs : List (RO × DF)} {hist : List Sto} {ob : Obl} {K : Env → Sto → Prop} {env : Env} {σ : Sto} {s x : Operand} {t t2 : TypeId} {ei : TyI} {id es n : Nat} {xs ys : List AV} {f : Bool}
    (hs : slE C t = some ei) (hv : ev C nt env s = .own id xs) (hg : σ.get id = some (.tok es n)) (he : es = ei.size) (hn : n = xs.length) (hok : OKEs es xs) (hx : (ev C nt env x).fz = .list f ys) (ht2 : (slE C t2).isSome = true) (hy : OKEs es ys)
    (hz : ei.zero.cells.size = ei.size) (hb : (n + ys.length) * ei.bytes ≤ 140737488355328) (hb2 : n + ys.length ≤ 9223372036854775807)
    (hk : oblOK (σ.set id (.tok es (n + ys.length))) ob ∧ wpD C nt K rs (σ :: hist) (oblDec ob) (putA env d (.own id (xs ++ ys))) (σ.set id (.tok es (n + ys.length)))) : appD C nt d #[s, x] #[t, t2] rs hist ob K env σ := by
  subst he
  obtain ⟨h1, h2, h3⟩ := append_res (ρ := ev C nt env) (σ := σ) (id := id) (es := ei.size) (n := n) hs hx ht2 hy hz hok (.inl ⟨hv, hg, rfl, hn⟩) hb hb2
  refine appD_aop ?_
  rw [h2]
  rcases h3 with ⟨_, h3⟩ | ⟨h3, _⟩
  · rw [h3]; exact ⟨h1, hk⟩
  · rw [hv] at h3; cases h3
theorem fz_list {f : Bool} {xs : List AV} : (AV.list f xs).fz = .list f xs := (rfl)
theorem fz_own {f : Nat} {xs : List AV} : (AV.own f xs).fz = .list false xs := (rfl)
theorem takeM {A B : Type} {l : List A} {k : Nat} (h : k < l.length) (f : A → B) : (l.take (k + 1)).map f = (l.take k).map f ++ [f l[k]] := by
  rw [← List.take_append_getElem h, List.map_append]; rfl
theorem le_own (id : Nat) (xs : List AV) : (AV.own id xs).le (.list false xs) := fun G v h => h.fz'
attribute [go_sem] oke_int oke_bool oke_str oke_list oke_own oke_ptr oke_encF oke_agg okes_nil okes_cons okes_append okes_encFs fz_list fz_own
attribute [go_sem] pick Sto.set_add' Sto.set_add_ne joinQ1_normal joinQ1_ret joinQ1_exit le_refl' le_int' le_bool' le_undef' bel_undef bel_bool bel_int bel_str bel_nilp bel_nilf bel_nilm bel_nili bel_ptr bel_row bel_map bel_yld bel_agg bel_tup bel_fn bel_list bel_own belL_nil belL_cons belE_nil belE_append belE_cons belE_ints belO_box belO_row belO_tok
  mkE_nil mkE_cons keptX_nil keptX_cons leX_nil leX_cons madeX_nil madeX_cons leL_nil leL_cons joinQ_normal joinQ_ret joinQ_exit loopX_normal loopX_ret loopX_exit stepX_normal stepX_exit stepX_ret envX endX List.map_cons List.map_nil and_true true_and and_self
theorem belE_encFs {m : Nat} (l : List Fm) : BelE m (encFs l) = True := eq_true fun x hx c hc => (closedFs l x hx c hc).bel
theorem bel_encF {m : Nat} (f : Fm) : Bel m (encF f) = True := eq_true (closedF f).bel
theorem cut_refl (σ : Sto) : Cut σ σ σ = True := eq_true (.refl σ)
attribute [go_sem] belE_encFs bel_encF cut_refl
end Go.Lg
