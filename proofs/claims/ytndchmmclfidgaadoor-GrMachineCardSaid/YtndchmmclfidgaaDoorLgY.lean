/- Lg, part Y: panics: calls that end so; a function whose deferred closure recovers. -/
import Derived.Test.YtndchmmclfidgaaDoorLgX
import Derived.RecoverIn
set_option linter.unusedVariables false
set_option linter.unusedSimpArgs false
namespace Go.Lg
open Go.RowKit
structure CallE (C : Cx) (f : FuncId) (args : List AV) (σ : Sto) (ch : List PanicEntry) (σ' : Sto) : Prop where
  here : ∃ fn c, Body C.P f fn c
  call : ∀ w0 G w (V : Array Value), Inv C.gl w0 G σ w → V.size = args.length → (∀ (i : Nat) (x : AV) (v : Value), args[i]? = some x → V[i]? = some v → Rep G x v) →
    CallsIn Fence.wide 0 C.P f V w fun e w' => ∃ G', e = .panicked ch ∧ Inv C.gl w0 G' σ' w' ∧ Ext G σ w G' σ' w'
def OpPanic (C : Cx) (o : Oper) (ρ : Operand → AV) (σ : Sto) (ch : List PanicEntry) (σ' : Sto) : Prop :=
  ∀ ro w0 G a w, Inv C.gl w0 G σ w → (∀ x ∈ o.op.operands.toList, Rep G (ρ x) (Act.eval a x)) → ∀ (next : Act → World → Prop) (Q : Exit → Act → World → Prop),
    (∀ G' w', Inv C.gl w0 G' σ' w' → Ext G σ w G' σ' w' → Q (.panic ch) a w') → o.wpIn (FW ro) 0 C.P a w next Q
def panE (t : TypeId) : List PanicEntry := [{ v := .iface t (.agg #[]), recovered := false }]
theorem wpr_soundP {C : Cx} {nt : Nat} {ops : Array Oper} : ∀ (os : List Oper) (k : Nat) (K : Env → Sto → Prop) (env : Env) (σ : Sto), (ops.toList.drop k).take os.length = os → wpr C nt (os.map (roOf ops)) K env σ →
    ∃ env' σ', OpsS C nt ops (List.range' k os.length) env σ env' σ' ∧ K env' σ'
  | [], k, K, env, σ, _, h => ⟨env, σ, opsS_nil, h⟩
  | o :: os, k, K, env, σ, hd, h => by
    have hd' : ops.toList.drop k ≠ [] := by intro e; rw [e] at hd; simp at hd
    have ho : ops[k]? = some o := by
      have h1 : ((ops.toList.drop k).take (o :: os).length)[0]? = some o := by rw [hd]; rfl
      rw [List.getElem?_take, if_pos (by simp), List.getElem?_drop, Nat.add_zero, Array.getElem?_toList] at h1
      exact h1
    have hd2 : (ops.toList.drop (k + 1)).take os.length = os := by
      cases hx : ops.toList.drop k with
      | nil => exact absurd hx hd'
      | cons y ys =>
        rw [hx] at hd
        simp only [List.length_cons, List.take_succ_cons, List.cons.injEq] at hd
        rw [← List.drop_drop, hx]; simpa using hd.2
    simp only [List.map_cons, wpr] at h
    obtain ⟨hg, hy, hn⟩ := guard_ro h
    rw [List.length_cons, List.range'_succ]
    cases hgo : goesA (guardA nt ops env o) with
    | true =>
      have h := hy hgo
      split at h
      · obtain ⟨v, σ1, hs, hk⟩ := h
        obtain ⟨env', σ', h1, h2⟩ := wpr_soundP os (k + 1) K _ _ hd2 hk
        exact ⟨env', σ', opsS_cons ho hg (fun _ => hs o rfl) (fun hn => by rw [hgo] at hn; cases hn) h1, h2⟩
      · obtain ⟨hc, hk⟩ := h
        obtain ⟨env', σ', h1, h2⟩ := wpr_soundP os (k + 1) K _ _ hd2 hk
        exact ⟨env', σ', opsS_cons ho hg (fun _ => opStep_of_snd aop_sound hc (aop_noDefer hc)) (fun hn => by rw [hgo] at hn; cases hn) h1, h2⟩
    | false =>
      obtain ⟨env', σ', h1, h2⟩ := wpr_soundP os (k + 1) K _ _ hd2 (hn hgo)
      exact ⟨env', σ', opsS_cons (v := .skp) (σ1 := σ) ho hg (fun hy => by rw [hgo] at hy; cases hy) (fun _ => ⟨rfl, rfl⟩) h1, h2⟩
def panR (C : Cx) (nt : Nat) (r : Option RO) (K : List PanicEntry → Sto → Prop) (env : Env) (σ : Sto) : Prop :=
  ∃ op d, r = some ⟨d, op, none⟩ ∧ ∃ ch σ', (∀ o : Oper, o.op = op → OpPanic C o (ev C nt env) σ ch σ') ∧ K ch σ'
theorem W.regP {C : Cx} {ro : Option Nat} {nt : Nat} {Q : Exit → Env → Sto → Prop} {env : Env} {σ : Sto} {id : Nat} {ops : Array Oper} (n : Nat)
    (h : wpr C nt ((ops.toList.map (roOf ops)).take n) (panR C nt (ops.toList.map (roOf ops))[n]? fun ch σ' => ∀ env', Q (.panic ch) env' σ') env σ) : W C ro nt (.region id ops false) Q env σ := by
  have hmt : (ops.toList.map (roOf ops)).take n = (ops.toList.take n).map (roOf ops) := by rw [List.map_take]
  rw [hmt] at h
  obtain ⟨env1, σ1, h1, op, d, hr, ch, σ', h2, h3⟩ := wpr_soundP (ops.toList.take n) 0 _ env σ (by rw [List.drop_zero, List.length_take]; simp [List.take_eq_take_iff]) h
  rw [List.getElem?_map] at hr
  obtain ⟨o, ho, hro⟩ := Option.map_eq_some_iff.1 hr
  rw [Array.getElem?_toList] at ho
  have hn : n < ops.size := (Array.getElem?_eq_some_iff.1 ho).1
  have hop : o.op = op := by have := congrArg RO.op hro; exact this
  have hgd : o.guard = none := by
    have := congrArg RO.gd hro
    simp only [roOf] at this
    cases hg : o.guard with
    | none => rfl
    | some p => rw [hg] at this; cases this
  refine ⟨.panic ch, env1, σ', fun w0 G a w hrel cr hcr => ?_, h3 env1⟩
  have hlen : (ops.toList.take n).length = n := by rw [List.length_take, Array.length_toList]; omega
  rw [hlen] at h1
  have hsplit : List.range ops.size = List.range' 0 n ++ (n :: List.range' (n + 1) (ops.size - n - 1)) := by
    rw [← List.range'_succ, List.range_eq_range']
    have : ops.size = n + (ops.size - n - 1 + 1) := by omega
    conv => lhs; rw [this]
    rw [← List.range'_append_1]; simp
  refine wpIn_region ?_
  rw [hsplit]
  refine h1 cr w0 G a w hrel _ _ fun G' a' w' hr' he' hd' => ?_
  show wpOpsIn _ _ _ _ _ (n :: _) _ _
  simp only [wpOpsIn, ho]
  have hw : Region.wanted o (yielded ops a'.tmps) = true := by simp [Region.wanted, hgd]
  rw [if_pos hw]
  refine h2 o hop cr w0 G' a' w' hr'.inv (fun x _ => hr'.env.ev hr'.inv x) _ _ fun G2 w2 hi2 he2 => ?_
  exact ⟨rfl, G2, [], ⟨hi2, hr'.env.mono he2.le⟩, he'.trans he2, by simpa using hd', Marks.nil⟩
theorem WK.regP {C : Cx} {ro : Option Nat} {nt : Nat} {Q : Exit → Env → Sto → Prop} {env : Env} {σ : Sto} {ros : List RO} (n : Nat)
    (h : wpr C nt (ros.take n) (panR C nt ros[n]? fun ch σ' => ∀ env', Q (.panic ch) env' σ') env σ) : WK C ro nt (.reg ros) Q env σ := by
  intro c hc
  cases c with
  | region id ops d =>
    cases d with
    | false =>
      simp only [toK, K.reg.injEq] at hc
      subst hc
      exact W.regP n h
    | true => cases hc
  | _ => cases hc
theorem andK_panic {C : Cx} {ro : Option Nat} {nt : Nat} {y : K} {Q : Exit → Env → Sto → Prop} {ch : List PanicEntry} : andK C ro nt y Q (.panic ch) = Q (.panic ch) := (rfl)
theorem inBlk_panic {id : Nat} {ch : List PanicEntry} : inBlk id (.panic ch) = .panic ch := (rfl)
end Go.Lg
