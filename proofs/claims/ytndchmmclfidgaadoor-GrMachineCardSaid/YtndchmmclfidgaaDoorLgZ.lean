/- Lg, part Z: a function that defers one closure, which may recover. -/
import Derived.Test.YtndchmmclfidgaaDoorLgY
set_option linter.unusedVariables false
set_option linter.unusedSimpArgs false
namespace Go.Lg
open Go.RowKit
def DefAt (G : Gh) (g : FuncId) (caps : List AV) (d : Deferred) : Prop :=
  ∃ cv : Array Value, d = { target := .fn (.func g) cv, args := #[] } ∧ cv.size = caps.length ∧ ∀ (i : Nat) (c : AV) (v : Value), caps[i]? = some c → cv[i]? = some v → Rep G c v
theorem DefAt.mono {G G' : Gh} {g : FuncId} {caps : List AV} {d : Deferred} (h : DefAt G g caps d) (le : G.le G') : DefAt G' g caps d := by
  obtain ⟨cv, h1, h2, h3⟩ := h
  exact ⟨cv, h1, h2, fun i c v hc hv => (h3 i c v hc hv).mono le⟩
def CodeP (C : Cx) (nt : Nat) (c : Code) (env : Env) (σ : Sto) (g : FuncId) (caps : List AV) (e : Exit) (env' : Env) (σ' : Sto) : Prop :=
  ∀ w0 G a w, Rel C w0 G nt env σ a w → c.wpIn (FW none) 0 C.P (fun e2 a' w' => e2 = e ∧ ∃ G' ms1 ms2 d, Rel C w0 G' nt env' σ' a' w' ∧ Ext G σ w G' σ' w' ∧ a'.defers = ms2.map mk ++ d :: (ms1.map mk ++ a.defers) ∧ DefAt G' g caps d ∧ Marks G' σ' w' w.heap.size (ms2 ++ ms1)) a w
def T0 (C : Cx) (nt : Nat) (c : Code) (Q0 : Exit → Env → Sto → Prop) (Q1 : FuncId → List AV → Exit → Env → Sto → Prop) (env : Env) (σ : Sto) : Prop :=
  (∃ e env' σ', CodeS C none nt c env σ e env' σ' ∧ Q0 e env' σ') ∨ (∃ g caps e env' σ', CodeP C nt c env σ g caps e env' σ' ∧ Q1 g caps e env' σ')
def tQ0 (C : Cx) (nt : Nat) (y : Code) (Q0 : Exit → Env → Sto → Prop) (Q1 : FuncId → List AV → Exit → Env → Sto → Prop) : Exit → Env → Sto → Prop
  | .normal => T0 C nt y Q0 Q1
  | e => Q0 e
def tQ1 (C : Cx) (nt : Nat) (y : Code) (Q1 : FuncId → List AV → Exit → Env → Sto → Prop) (g : FuncId) (caps : List AV) : Exit → Env → Sto → Prop
  | .normal => W C none nt y (Q1 g caps)
  | e => Q1 g caps e
variable {C : Cx} {nt : Nat} {Q0 : Exit → Env → Sto → Prop} {Q1 : FuncId → List AV → Exit → Env → Sto → Prop} {env : Env} {σ : Sto}
theorem T0.seq {x y : Code} (h : T0 C nt x (tQ0 C nt y Q0 Q1) (tQ1 C nt y Q1) env σ) : T0 C nt (.seq x y) Q0 Q1 env σ := by
  rcases h with ⟨e, env1, σ1, hx, hq⟩ | ⟨g, caps, e, env1, σ1, hx, hq⟩
  · by_cases he : e = .normal
    · subst he
      rcases hq with ⟨e', env', σ', hy, hq⟩ | ⟨g, caps, e', env', σ', hy, hq⟩
      · exact .inl ⟨e', env', σ', codeS_seq hx hy, hq⟩
      · refine .inr ⟨g, caps, e', env', σ', fun w0 G a w h => ?_, hq⟩
        refine wpIn_seq (wpIn_mono (hx w0 G a w h none trivial) ?_)
        rintro e2 a1 w1 ⟨rfl, G1, ms0, h1, h2, h3, h4⟩
        refine wpIn_mono (hy w0 G1 a1 w1 h1) ?_
        rintro e3 a' w' ⟨rfl, G', ms1, ms2, d, k1, k2, k3, k4, k5⟩
        refine ⟨rfl, G', ms1 ++ ms0, ms2, d, k1, h2.trans k2, by rw [k3, h3]; simp, k4, ?_⟩
        have := (h4.ext k2).append k5 (fun r hr => (Array.getElem?_eq_some_iff.1 (h4.ok r hr).2.1).1) h2.size
        rw [List.append_assoc] at this; exact this
    · refine .inl ⟨e, env1, σ1, codeS_seq_exit hx he, ?_⟩
      cases e <;> first | exact absurd rfl he | exact hq
  · by_cases he : e = .normal
    · subst he
      obtain ⟨e', env', σ', hy, hq⟩ := hq
      refine .inr ⟨g, caps, e', env', σ', fun w0 G a w h => ?_, hq⟩
      refine wpIn_seq (wpIn_mono (hx w0 G a w h) ?_)
      rintro e2 a1 w1 ⟨rfl, G1, ms1, ms2, d, h1, h2, h3, h4, h5⟩
      refine wpIn_mono (hy w0 G1 a1 w1 h1 none trivial) ?_
      rintro e3 a' w' ⟨rfl, G', ms3, k1, k2, k3, k4⟩
      refine ⟨rfl, G', ms1, ms3 ++ ms2, d, k1, h2.trans k2, by rw [k3, h3]; simp, h4.mono k2.le, ?_⟩
      have := (h5.ext k2).append k4 (fun r hr => (Array.getElem?_eq_some_iff.1 (h5.ok r hr).2.1).1) h2.size
      rw [List.append_assoc]; exact this
    · refine .inr ⟨g, caps, e, env1, σ1, fun w0 G a w h => ?_, by cases e <;> first | exact absurd rfl he | exact hq⟩
      refine wpIn_seq (wpIn_mono (hx w0 G a w h) ?_)
      rintro e2 a1 w1 ⟨rfl, hp⟩
      cases e2 <;> first | exact absurd rfl he | exact ⟨rfl, hp⟩
def defR (C : Cx) (nt : Nat) (r : Option RO) (K : FuncId → List AV → Env → Sto → Prop) (env : Env) (σ : Sto) : Prop :=
  ∃ f ts g caps, r = some ⟨none, .defer ⟨.value f, #[], ts⟩, none⟩ ∧ ev C nt env f = .fn g caps ∧ K g caps env σ
theorem T0.defer {id : Nat} {ops : Array Oper} (n : Nat) (hn : ops.size = n + 1)
    (h : wpr C nt ((ops.toList.map (roOf ops)).take n) (defR C nt (ops.toList.map (roOf ops))[n]? fun g caps env σ => Q1 g caps .normal env σ) env σ) : T0 C nt (.region id ops false) Q0 Q1 env σ := by
  have hmt : (ops.toList.map (roOf ops)).take n = (ops.toList.take n).map (roOf ops) := by rw [List.map_take]
  rw [hmt] at h
  obtain ⟨env1, σ1, h1, f, ts, g, caps, hr, hf, h3⟩ := wpr_soundP (ops.toList.take n) 0 _ env σ (by rw [List.drop_zero, List.length_take]; simp [List.take_eq_take_iff]) h
  rw [List.getElem?_map] at hr
  obtain ⟨o, ho, hro⟩ := Option.map_eq_some_iff.1 hr
  rw [Array.getElem?_toList] at ho
  have hop : o.op = .defer ⟨.value f, #[], ts⟩ := by have := congrArg RO.op hro; exact this
  have hdst : o.dst = none := by have := congrArg RO.dst hro; exact this
  have hgd : o.guard = none := by
    have := congrArg RO.gd hro
    simp only [roOf] at this
    cases hg : o.guard with
    | none => rfl
    | some p => rw [hg] at this; cases this
  refine .inr ⟨g, caps, .normal, env1, σ1, fun w0 G a w hrel => ?_, h3⟩
  have hlen : (ops.toList.take n).length = n := by rw [List.length_take, Array.length_toList]; omega
  rw [hlen] at h1
  have hsplit : List.range ops.size = List.range' 0 n ++ [n] := by
    rw [hn, List.range_succ, List.range_eq_range']
  refine wpIn_region ?_
  rw [hsplit]
  refine h1 none w0 G a w hrel _ _ fun G' a' w' hr' he' hd' => ?_
  show wpOpsIn _ _ _ _ _ [n] _ _
  simp only [wpOpsIn, ho]
  have hw : Region.wanted o (yielded ops a'.tmps) = true := by simp [Region.wanted, hgd]
  rw [if_pos hw]
  refine ⟨fun _ _ => trivial, ?_⟩
  have hp := hr'.env.ev hr'.inv f
  rw [hf] at hp
  cases hv : a'.eval f with
  | func fv first cv =>
    rw [hv] at hp
    cases hp with
    | fn _ _ _ hl hcv =>
      have hsem : (o.semAt (FW none).round a'.eval).run C.P w' = .ok (.defer { target := .fn (.func g) cv, args := #[] }) w' := by
        show (Oper.semAt none a'.eval o).run C.P w' = _
        rw [Oper.semAt_none]
        simp [execOp, hop, resolve, hv, Deferred.ofValue]
      rw [hsem, Oper.uponIn_defer]
      have hput : ({ a' with defers := { target := .fn (.func g) cv, args := #[] } :: a'.defers } : Act).put o.dst undef = { a' with defers := { target := .fn (.func g) cv, args := #[] } :: a'.defers } := by rw [hdst]; rfl
      rw [hput]
      exact ⟨by first | rfl | trivial, G', [], [], _, ⟨hr'.inv, hr'.env⟩, he', by simp [hd'], ⟨cv, rfl, hl, hcv⟩, Marks.nil⟩
  | _ => rw [hv] at hp; cases hp
def modeOf : Exit → FrameMode
  | .panic ch => .panicking ch
  | _ => .returning
def CallDD (C : Cx) (g : FuncId) (caps : List AV) (u : FrameMode) (σ σ2 : Sto) : Prop :=
  (∃ fn c, Body C.P g fn c) ∧ ∀ w0 G w (V : Array Value), Inv C.gl w0 G σ w → V.size = caps.length → (∀ (i : Nat) (x : AV) (v : Value), caps[i]? = some x → V[i]? = some v → Rep G x v) →
    CallsDIn Fence.wide 0 C.P g V u w fun e u' w' => (∃ v, e = .returned v) ∧ settle u' = .returning ∧ ∃ G', Inv C.gl w0 G' σ2 w' ∧ Ext G σ w G' σ2 w'
def endD (C : Cx) (fn : Func) (σ σ1 : Sto) (r : AV) (g : FuncId) (caps : List AV) (e : Exit) (env' : Env) (σ' : Sto) : Prop :=
  (e = .normal ∨ e = .ret ∨ ∃ ch, e = .panic ch) ∧ ∃ σ2, CallDD C g caps (modeOf e) σ' σ2 ∧ allP (resOK C fn.ntmps env' σ2) fn.results.toList ∧ ((oneOr (fn.results.toList.map (resA C fn.ntmps env' σ2))).le r ∧ Bel σ1.next r) ∧ Cut σ σ2 σ1
def CodeN (C : Cx) (nt : Nat) (c : Code) (env : Env) (σ : Sto) (e : Exit) (env' : Env) (σ' : Sto) : Prop :=
  ∀ w0 G a w, Rel C w0 G nt env σ a w → c.wpIn (FW none) 0 C.P (fun e2 a' w' => e2 = e ∧ ∃ G', Rel C w0 G' nt env' σ' a' w' ∧ Ext G σ w G' σ' w' ∧ a'.defers = a.defers) a w
def WN (C : Cx) (nt : Nat) (c : Code) (Q : Exit → Env → Sto → Prop) (env : Env) (σ : Sto) : Prop := ∃ e env' σ', CodeN C nt c env σ e env' σ' ∧ Q e env' σ'
def NK (C : Cx) (nt : Nat) (k : K) (Q : Exit → Env → Sto → Prop) (env : Env) (σ : Sto) : Prop := ∀ c, toK c = k → WN C nt c Q env σ
def andN (C : Cx) (nt : Nat) (y : K) (Q : Exit → Env → Sto → Prop) : Exit → Env → Sto → Prop
  | .normal => NK C nt y Q
  | e => Q e
section
variable {Q : Exit → Env → Sto → Prop}
theorem NK.seq {x y : K} (h : NK C nt x (andN C nt y Q) env σ) : NK C nt (.seq x y) Q env σ := by
  intro c hc
  cases c with
  | seq a b =>
    simp only [toK, K.seq.injEq] at hc
    obtain ⟨e, env1, σ1, hx, hq⟩ := h a hc.1
    by_cases he : e = .normal
    · subst he
      obtain ⟨e', env', σ', hy, hq⟩ := hq b hc.2
      refine ⟨e', env', σ', fun w0 G a w h => ?_, hq⟩
      refine wpIn_seq (wpIn_mono (hx w0 G a w h) ?_)
      rintro e2 a1 w1 ⟨rfl, G1, h1, h2, h3⟩
      refine wpIn_mono (hy w0 G1 a1 w1 h1) ?_
      rintro e3 a' w' ⟨rfl, G', k1, k2, k3⟩
      exact ⟨rfl, G', k1, h2.trans k2, k3.trans h3⟩
    · refine ⟨e, env1, σ1, fun w0 G a w h => ?_, by cases e <;> first | exact absurd rfl he | exact hq⟩
      refine wpIn_seq (wpIn_mono (hx w0 G a w h) ?_)
      rintro e2 a1 w1 ⟨rfl, hp⟩
      cases e2 <;> first | exact absurd rfl he | exact ⟨rfl, hp⟩
  | region id ops d => cases d <;> cases hc
  | _ => cases hc
theorem NK.reg {ros : List RO} (h : wpr C nt ros (fun env σ => Q .normal env σ) env σ) : NK C nt (.reg ros) Q env σ := by
  intro c hc
  cases c with
  | region id ops d =>
    cases d with
    | false =>
      simp only [toK, K.reg.injEq] at hc
      subst hc
      obtain ⟨env', σ', h1, h2⟩ := wpr_sound ops.toList 0 _ env σ (List.drop_zero ..) h
      refine ⟨.normal, env', σ', fun w0 G a w hrel => wpIn_region ?_, h2⟩
      have h1' : OpsS C nt ops (List.range ops.size) env σ env' σ' := by rw [List.range_eq_range']; simpa using h1
      have := h1' none w0 G a w hrel (fun e2 a' w' => e2 = .normal ∧ ∃ G', Rel C w0 G' nt env' σ' a' w' ∧ Ext G σ w G' σ' w' ∧ a'.defers = a.defers) [] fun G' a' w' h1 h2 h3 => by
        simp only [wpOpsIn]
        exact ⟨trivial, G', h1, h2, h3⟩
      simpa using this
    | true => cases hc
  | _ => cases hc
theorem NK.cond {c : Operand} {x y : K} (b : Bool) (hc : ev C nt env c = .bool b) (ht : b = true → NK C nt x Q env σ) (hf : b = false → NK C nt y Q env σ) : NK C nt (.cond c x y) Q env σ := by
  intro cd hcd
  cases cd with
  | cond c' a' b' =>
    simp only [toK, K.cond.injEq] at hcd
    obtain ⟨rfl, h2, h3⟩ := hcd
    cases b with
    | true =>
      obtain ⟨e, env', σ', hx, hq⟩ := ht rfl a' h2
      refine ⟨e, env', σ', fun w0 G a w hr => ?_, hq⟩
      have he := hr.env.ev hr.inv c'
      rw [hc] at he
      exact wpIn_cond (he.isBool rfl) (hx w0 G a w hr)
    | false =>
      obtain ⟨e, env', σ', hx, hq⟩ := hf rfl b' h3
      refine ⟨e, env', σ', fun w0 G a w hr => ?_, hq⟩
      have he := hr.env.ev hr.inv c'
      rw [hc] at he
      exact wpIn_cond (he.isBool rfl) (hx w0 G a w hr)
  | region id ops d => cases d <;> cases hcd
  | _ => cases hcd
theorem NK.block {id : Nat} {k : K} (h : NK C nt k (fun e => Q (inBlk id e)) env σ) : NK C nt (.block id k) Q env σ := by
  intro c hc
  cases c with
  | block id' b =>
    simp only [toK, K.block.injEq] at hc
    obtain ⟨rfl, h2⟩ := hc
    obtain ⟨e, env', σ', hx, hq⟩ := h b h2
    refine ⟨inBlk id' e, env', σ', fun w0 G a w hr => ?_, hq⟩
    refine wpIn_block (wpIn_mono (hx w0 G a w hr) ?_)
    rintro e2 a' w' ⟨rfl, hp⟩
    cases e2 with
    | exit i =>
      by_cases hi : i = id'
      · simp only [Exit.inBlock, inBlk, if_pos hi]; exact ⟨by first | rfl | trivial, hp⟩
      · simp only [Exit.inBlock, inBlk, if_neg hi]; exact ⟨by first | rfl | trivial, hp⟩
    | _ => exact ⟨rfl, hp⟩
  | region id ops d => cases d <;> cases hc
  | _ => cases hc
theorem NK.skip (h : Q .normal env σ) : NK C nt .skip Q env σ := by
  intro c hc
  cases c with
  | skip => exact ⟨.normal, env, σ, fun w0 G a w hr => wpIn_skip ⟨rfl, G, hr, .refl _ _ _, rfl⟩, h⟩
  | region id ops d => cases d <;> cases hc
  | _ => cases hc
end
end Go.Lg
