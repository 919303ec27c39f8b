/- Lg, part Rw: append to a row in a region that draws its order. -/
import Derived.Test.YtndchmmclfidgaaDoorLgX
import Derived.Test.YtndchmmclfidgaaDoorLgTm
set_option linter.unusedVariables false
set_option linter.unusedSimpArgs false
namespace Go.Lg
open Go.RowKit
theorem append_rr {C : Cx} {ρ : Operand → AV} {σ : Sto} {s x : Operand} {t t2 : TypeId} {ei : TyI} {id es n : Nat} {xs ys : List AV} {f : Bool}
    (hs : slE C t = some ei) (hv : ρ s = .row id 0 n) (hg : σ.get id = some (.row es xs false)) (he : es = ei.size) (hn : n = xs.length) (h1 : ∀ x ∈ xs, x.cells.all AV.one = true)
    (hx : (ρ x).fz = .list f ys) (ht2 : (slE C t2).isSome = true) (hy : OKEs es ys) (hz : ei.zero.cells.size = ei.size) (hb : (n + ys.length) * ei.bytes ≤ 140737488355328) (hb2 : n + ys.length ≤ 9223372036854775807) :
    (aop C ρ σ (.call ⟨.builtin .append, #[s, x], #[t, t2]⟩)).c ∧ (aop C ρ σ (.call ⟨.builtin .append, #[s, x], #[t, t2]⟩)).v = .row σ.next 0 (n + ys.length) ∧
      (aop C ρ σ (.call ⟨.builtin .append, #[s, x], #[t, t2]⟩)).s = (σ.del id).add (.row es (xs ++ ys) false) := by
  subst he
  have hsrc : (srcA C σ t2 ei.size (ρ x)).1 ∧ (srcA C σ t2 ei.size (ρ x)).2 = ys := by
    generalize ρ x = v at hx
    cases v with
    | own id' zs => simp only [AV.fz, AV.list.injEq] at hx; obtain ⟨_, rfl⟩ := hx; exact srcA_own ht2 hy
    | list f' zs => simp only [AV.fz, AV.list.injEq] at hx; obtain ⟨_, rfl⟩ := hx; exact srcA_list ht2 hy
    | _ => simp [AV.fz] at hx
  have e : aop C ρ σ (.call ⟨.builtin .append, #[s, x], #[t, t2]⟩) = appA C σ t2 ei (ρ s) (ρ x) := by
    show (match slE C t with | some ei => appA C σ t2 ei (ρ s) (ρ x) | none => bad σ) = _
    rw [hs]
  rw [e, hv]
  simp only [appA, hg, hsrc.2, List.drop_zero]
  exact ⟨⟨hsrc.1, by omega, trivial, h1, hz, hb, hb2⟩, trivial, trivial⟩
theorem appD_rr {C : Cx} {nt : Nat} {d : Option Nat} {rs : List (RO × DF)} {hist : List Sto} {ob : Obl} {K : Env → Sto → Prop} {env : Env} {σ : Sto} {s x : Operand} {t t2 : TypeId} {ei : TyI} {id es n : Nat} {xs ys : List AV} {f : Bool}
    (hs : slE C t = some ei) (hv : ev C nt env s = .row id 0 n) (hg : σ.get id = some (.row es xs false)) (he : es = ei.size) (hn : n = xs.length) (h1 : ∀ x ∈ xs, x.cells.all AV.one = true)
    (hx : (ev C nt env x).fz = .list f ys) (ht2 : (slE C t2).isSome = true) (hy : OKEs es ys) (hz : ei.zero.cells.size = ei.size) (hb : (n + ys.length) * ei.bytes ≤ 140737488355328) (hb2 : n + ys.length ≤ 9223372036854775807)
    (hk : oblOK ((σ.del id).add (.row es (xs ++ ys) false)) ob ∧ wpD C nt K rs (σ :: hist) (oblDec ob) (putA env d (.row σ.next 0 (n + ys.length))) ((σ.del id).add (.row es (xs ++ ys) false))) : appD C nt d #[s, x] #[t, t2] rs hist ob K env σ := by
  obtain ⟨k1, k2, k3⟩ := append_rr (ρ := ev C nt env) (σ := σ) hs hv hg he hn h1 hx ht2 hy hz hb hb2
  refine appD_aop ?_
  rw [k2, k3]
  exact ⟨k1, hk⟩
theorem appD_row {C : Cx} {nt : Nat} {d : Option Nat} {rs : List (RO × DF)} {hist : List Sto} {ob : Obl} {K : Env → Sto → Prop} {env : Env} {σ : Sto} {s x : Operand} {t t2 : TypeId} {ei : TyI} {xs ys : List AV} {f : Bool}
    (hs : slE C t = some ei) (hv : ev C nt env s = .list true xs) (hok : OKEs ei.size xs) (hx : (ev C nt env x).fz = .list f ys) (ht2 : (slE C t2).isSome = true) (hy : OKEs ei.size ys) (hne : ys ≠ [])
    (hz : ei.zero.cells.size = ei.size) (hb : (xs.length + ys.length) * ei.bytes ≤ 140737488355328) (hb2 : xs.length + ys.length ≤ 9223372036854775807)
    (hk : oblOK (σ.add (.row ei.size (xs ++ ys) false)) ob ∧ wpD C nt K rs (σ :: hist) (oblDec ob) (putA env d (.row σ.next 0 (xs.length + ys.length))) (σ.add (.row ei.size (xs ++ ys) false))) : appD C nt d #[s, x] #[t, t2] rs hist ob K env σ := by
  have hsrc : (srcA C σ t2 ei.size (ev C nt env x)).1 ∧ (srcA C σ t2 ei.size (ev C nt env x)).2 = ys := by
    generalize ev C nt env x = v at hx
    cases v with
    | own id' zs => simp only [AV.fz, AV.list.injEq] at hx; obtain ⟨_, rfl⟩ := hx; exact srcA_own ht2 hy
    | list f' zs => simp only [AV.fz, AV.list.injEq] at hx; obtain ⟨_, rfl⟩ := hx; exact srcA_list ht2 hy
    | _ => simp [AV.fz] at hx
  obtain ⟨ti, e, ht, hd, he⟩ := slE_some hs
  refine ⟨_, _, fun o ho => ?_, hk⟩
  have hsnd := snd_append_full (σ := σ) (ρ := ev C nt env) (ys := ys) ht hd he ho hv fun w0 G a w hi hr => by
    have := srcA_ok hsrc.1 hi hr
    rw [hsrc.2] at this; exact this
  refine opStep_of_snd hsnd ⟨hne, fun x hx => (hok x hx).1, fun x hx => (hok x hx).2, hz, hb, hb2⟩ (fun c hc => ?_)
  rw [ho] at hc; cases hc
end Go.Lg

set_option linter.unusedVariables false
set_option linter.unusedSimpArgs false
namespace Go.Lg
open Go.RowKit
end Go.Lg

set_option linter.unusedVariables false
set_option linter.unusedSimpArgs false
namespace Go.Lg
open Go.RowKit
end Go.Lg

/- Lg, part Rz: a region that draws its order: its head by wpD, its tail by every order there is. -/
set_option linter.unusedVariables false
set_option linter.unusedSimpArgs false
namespace Go.Lg
open Go.RowKit
/-- Every choice of the next operation, until nothing is left. -/
def drT (C : Cx) (nt : Nat) (ops : Array Oper) (K : Env → Sto → Prop) : Nat → Array Bool → Env → Sto → Prop
  | 0, listed, env, σ => Region.ready .any ops listed = [] ∧ K env σ
  | n + 1, listed, env, σ => (Region.ready .any ops listed = [] → K env σ) ∧ ∀ i ∈ Region.ready .any ops listed, ∃ o, ops[i]? = some o ∧ wpr C nt [roOf ops o] (drT C nt ops K n (listed.setIfInBounds i true)) env σ
theorem drT_sound {C : Cx} {ro : Option Nat} {nt : Nat} {ops : Array Oper} {env' : Env} {σ' : Sto} {Q : Exit → Act → World → Prop} {w0 : World} {G0 : Gh} {σ0 : Sto} {ws : World} {df : List Deferred}
    (hQ : ∀ G a w, Rel C w0 G nt env' σ' a w → Ext G0 σ0 ws G σ' w → a.defers = df → Q .normal a w) :
    ∀ (n : Nat) (listed : Array Bool) (env : Env) (σ : Sto) (G : Gh) (a : Act) (w : World), drT C nt ops (fun e s => e = env' ∧ s = σ') n listed env σ → Rel C w0 G nt env σ a w → Ext G0 σ0 ws G σ w → a.defers = df → wpAnyIn (FW ro) 0 C.P .any ops Q n listed a w
  | 0, listed, env, σ, G, a, w, h, hrel, hext, hdf => by
    obtain ⟨hr, rfl, rfl⟩ := h
    exact ⟨hr, hQ G a w hrel hext hdf⟩
  | n + 1, listed, env, σ, G, a, w, h, hrel, hext, hdf => by
    refine ⟨fun hr => ?_, fun i hi => ?_⟩
    · obtain ⟨rfl, rfl⟩ := h.1 hr
      exact hQ G a w hrel hext hdf
    · obtain ⟨o, ho, hw⟩ := h.2 i hi
      simp only [wpr] at hw
      obtain ⟨hg, hy, hn⟩ := guard_ro hw
      unfold wpOpIn
      simp only [ho]
      rw [wanted_eq hrel.env hg]
      cases hgo : goesA (guardA nt ops env o) with
      | true =>
        simp only [if_true]
        have hh := hy hgo
        have hstep : ∃ v σ1, OpStep C o (ev C nt env) σ v σ1 ∧ drT C nt ops (fun e s => e = env' ∧ s = σ') n (listed.setIfInBounds i true) (putA env o.dst v) σ1 := by
          split at hh
          · obtain ⟨v, σ1, hs, hk⟩ := hh
            exact ⟨v, σ1, hs o rfl, hk⟩
          · obtain ⟨hc, hk⟩ := hh
            exact ⟨_, _, opStep_of_snd aop_sound hc (aop_noDefer hc), hk⟩
        obtain ⟨v, σ1, hs, hk⟩ := hstep
        refine hs ro w0 G a w hrel.inv (fun x _ => hrel.env.ev hrel.inv x) _ _ fun G' v' w' hr hi' he => ?_
        exact drT_sound hQ n _ _ _ G' _ w' hk ⟨hi', (hrel.env.mono he.le).put hr o.dst⟩ (hext.trans he) (by rw [← hdf]; cases o.dst <;> rfl)
      | false =>
        simp only [Bool.false_eq_true, if_false]
        exact ⟨fun _ _ => trivial, drT_sound hQ n _ _ _ G _ w (hn hgo) ⟨hrel.inv, hrel.env.put (rep_skp G) o.dst⟩ hext (by rw [← hdf]; cases o.dst <;> rfl)⟩
section
variable {F : Fence} {P : Program} {ops : Array Oper} {Q Q1 : Exit → Act → World → Prop} {n0 : Nat}
theorem wpIn_monoQ {o : Oper} {a : Act} {w : World} {K : Act → World → Prop} (hq : ∀ e a w, e ≠ .normal → Q1 e a w → Q e a w) (hh : o.wpIn F n0 P a w K Q1) : o.wpIn F n0 P a w K Q := by
  unfold Oper.wpIn at *
  refine ⟨hh.1, ?_⟩
  have hh := hh.2
  generalize (o.semAt F.round a.eval).run P w = r at *
  have ho : LetsOut Q1 → LetsOut Q := fun ⟨a, w, h⟩ => ⟨a, w, hq .outgrown a w (by simp) h⟩
  cases r with
  | ok x w' =>
    cases x <;> simp only [Oper.uponIn] at hh ⊢ <;>
      first
        | exact hh
        | exact ⟨hh.1, CallsIn.mono hh.2 (fun e w'' he => by cases e <;> first | exact he | exact hq _ _ _ (by simp) he | exact ho he)⟩
        | exact ⟨hh.1, RoundIn.mono hh.2 (fun e w'' he => by cases e <;> first | exact he | exact hq _ _ _ (by simp) he | exact ho he)⟩
  | halt x w' => cases x <;> simp only [Oper.uponIn] at hh ⊢ <;> first | exact hh | exact hq _ _ _ (by simp) hh
theorem wpAnyIn_more {md : Region.Mode} : ∀ (n : Nat) (listed : Array Bool) (a : Act) (w : World), wpAnyIn F n0 P md ops Q n listed a w → wpAnyIn F n0 P md ops Q (n + 1) listed a w
  | 0, listed, a, w, h => ⟨fun _ => h.2, fun i hi => by rw [h.1] at hi; cases hi⟩
  | n + 1, listed, a, w, h => ⟨h.1, fun i hi => wpOpIn_mono (fun a w hk => wpAnyIn_more n _ a w hk) (h.2 i hi)⟩
theorem wpAnyIn_add {md : Region.Mode} (m : Nat) {n : Nat} {listed : Array Bool} {a : Act} {w : World} (h : wpAnyIn F n0 P md ops Q n listed a w) : wpAnyIn F n0 P md ops Q (m + n) listed a w := by
  induction m with
  | zero => rw [Nat.zero_add]; exact h
  | succ m ih => rw [Nat.succ_add]; exact wpAnyIn_more _ _ _ _ ih
/-- The first k operations have no guard and come ahead of all others. -/
def sepOK (ops : Array Oper) (k : Nat) : Bool :=
  decide (k ≤ ops.size) && (List.range ops.size).all fun j => match ops[j]? with
    | some o => if j < k then o.guard.isNone && o.after.toList.all fun e => !Region.binds .any e || decide (e.on < j)
      else (List.range k).all fun i => o.after.toList.any fun e => Region.binds .any e && e.on == i
    | none => false
def headB (n k : Nat) (l : Array Bool) : Array Bool := l ++ Array.replicate (n - k) false
def fullB (n k : Nat) : Array Bool := headB n k (Array.replicate k true)
theorem wpAnyIn_split {k m : Nat} (hs : sepOK ops k = true) (hq : ∀ e a w, e ≠ .normal → Q1 e a w → Q e a w) (hn : ∀ a w, Q1 .normal a w → wpAnyIn F n0 P .any ops Q m (fullB ops.size k) a w) :
    ∀ (n : Nat) (l : Array Bool) (a : Act) (w : World), l.size = k → wpAnyIn F n0 P .any (ops.extract 0 k) Q1 n l a w → wpAnyIn F n0 P .any ops Q (n + m) (headB ops.size k l) a w := by
  simp only [sepOK, Bool.and_eq_true, decide_eq_true_eq, List.all_eq_true, List.mem_range] at hs
  obtain ⟨hk, hs⟩ := hs
  have hex : ∀ j, j < k → (ops.extract 0 k)[j]? = ops[j]? := fun j hj => by
    rw [Array.getElem?_extract]; simp; omega
  have hsz : (ops.extract 0 k).size = k := by simp; omega
  have hL : ∀ (l : Array Bool) (j : Nat) (d : Bool), l.size = k → j < k → (headB ops.size k l).getD j d = l.getD j d := fun l j d hl hj => by
    simp only [headB, Array.getD_eq_getD_getElem?]
    rw [Array.getElem?_append, if_pos (by omega)]
  have hL2 : ∀ (l : Array Bool) (j : Nat) (d : Bool), l.size = k → k ≤ j → j < ops.size → (headB ops.size k l).getD j d = false := fun l j d hl hj hj2 => by
    simp only [headB, Array.getD_eq_getD_getElem?]
    rw [Array.getElem?_append, if_neg (by omega)]
    simp [show j - l.size < ops.size - k by omega]
  -- what may come next
  have hready : ∀ (l : Array Bool) (j : Nat), l.size = k → j ∈ Region.ready .any (ops.extract 0 k) l → j ∈ Region.ready .any ops (headB ops.size k l) := fun l j hl hj => by
    obtain ⟨h1, o, ho, h3⟩ := mem_ready.1 hj
    have hjk : j < k := by have := (Array.getElem?_eq_some_iff.1 ho).1; omega
    rw [hex j hjk] at ho
    refine mem_ready.2 ⟨by rw [hL l j true hl hjk]; exact h1, o, ho, fun e he hb => ?_⟩
    have hlt : e.on < j := by
      have := hs j (by omega)
      rw [ho] at this
      simp only [hjk, if_true, Bool.and_eq_true, List.all_eq_true, Bool.or_eq_true, Bool.not_eq_true', decide_eq_true_eq] at this
      rcases this.2 e (Array.mem_toList_iff.2 he) with h | h
      · rw [hb] at h; cases h
      · exact h
    rw [hL l e.on false hl (by omega)]
    exact h3 e he hb
  have hback : ∀ (l : Array Bool) (j : Nat), l.size = k → (∃ i, i < k ∧ l.getD i false = false) → j ∈ Region.ready .any ops (headB ops.size k l) → j < k ∧ j ∈ Region.ready .any (ops.extract 0 k) l := fun l j hl hun hj => by
    obtain ⟨h1, o, ho, h3⟩ := mem_ready.1 hj
    have hjs : j < ops.size := (Array.getElem?_eq_some_iff.1 ho).1
    have hsj := hs j hjs
    rw [ho] at hsj
    by_cases hjk : j < k
    · refine ⟨hjk, mem_ready.2 ⟨by rw [← hL l j true hl hjk]; exact h1, o, by rw [hex j hjk]; exact ho, fun e he hb => ?_⟩⟩
      simp only [hjk, if_true, Bool.and_eq_true, List.all_eq_true, Bool.or_eq_true, Bool.not_eq_true', decide_eq_true_eq] at hsj
      have hlt : e.on < j := by
        rcases hsj.2 e (Array.mem_toList_iff.2 he) with h | h
        · rw [hb] at h; cases h
        · exact h
      rw [← hL l e.on false hl (by omega)]
      exact h3 e he hb
    · exfalso
      obtain ⟨i, hi, hun⟩ := hun
      simp only [hjk, if_false, List.all_eq_true, List.mem_range, List.any_eq_true, Bool.and_eq_true, beq_iff_eq] at hsj
      obtain ⟨e, he, hb, rfl⟩ := hsj i hi
      have := h3 e (Array.mem_toList_iff.1 he) hb
      rw [hL l e.on false hl hi, hun] at this; cases this
  have hnone : ∀ l : Array Bool, l.size = k → Region.ready .any (ops.extract 0 k) l = [] → ∀ i, i < k → l.getD i false = true := fun l hl hr i => by
    induction i using Nat.strongRecOn with
    | _ i ih =>
      intro hi
      cases hli : l.getD i false with
      | true => rfl
      | false =>
        exfalso
        have hio : i < ops.size := by omega
        have : i ∈ Region.ready .any (ops.extract 0 k) l := by
          refine mem_ready.2 ⟨?_, ops[i], by rw [hex i hi]; exact Array.getElem?_eq_getElem hio, fun e he hb => ?_⟩
          · have hs' : i < l.size := by omega
            simpa [Array.getD_eq_getD_getElem?, hs'] using hli
          · have hsi := hs i hio
            rw [Array.getElem?_eq_getElem hio] at hsi
            simp only [hi, if_true, Bool.and_eq_true, List.all_eq_true, Bool.or_eq_true, Bool.not_eq_true', decide_eq_true_eq] at hsi
            rcases hsi.2 e (Array.mem_toList_iff.2 he) with h | h
            · rw [hb] at h; cases h
            · exact ih e.on h (by omega)
        rw [hr] at this; cases this
  have hfull : ∀ l : Array Bool, l.size = k → (∀ i, i < k → l.getD i false = true) → headB ops.size k l = fullB ops.size k := fun l hl h => by
    have : l = Array.replicate k true := by
      refine Array.ext (by simp [hl]) fun i h1 h2 => ?_
      have := h i (by omega)
      rw [Array.getD_eq_getD_getElem?, Array.getElem?_eq_getElem h1] at this
      simpa using this
    rw [this]; rfl
  intro n
  induction n with
  | zero =>
    intro l a w hl h
    rw [hfull l hl (hnone l hl h.1), Nat.zero_add]
    exact hn a w h.2
  | succ n ih =>
    intro l a w hl h
    by_cases hall : ∀ i, i < k → l.getD i false = true
    · have hr : Region.ready .any (ops.extract 0 k) l = [] := by
        cases hr : Region.ready .any (ops.extract 0 k) l with
        | nil => rfl
        | cons j r =>
          exfalso
          obtain ⟨h1, o, ho, _⟩ := mem_ready.1 (show j ∈ Region.ready .any (ops.extract 0 k) l by rw [hr]; simp)
          have hjk : j < k := by have := (Array.getElem?_eq_some_iff.1 ho).1; omega
          have := hall j hjk
          have hs' : j < l.size := by omega
          simp [Array.getD_eq_getD_getElem?, hs'] at this h1
          rw [this] at h1; cases h1
      rw [hfull l hl hall, Nat.add_comm (n + 1) m, Nat.add_comm m (n + 1)]
      exact wpAnyIn_add (n + 1) (hn a w (h.1 hr))
    · have hun : ∃ i, i < k ∧ l.getD i false = false := by
        refine Classical.byContradiction fun hh => hall fun i hi => ?_
        cases e : l.getD i false with
        | true => rfl
        | false => exact absurd ⟨i, hi, e⟩ hh
      rw [Nat.succ_add]
      refine ⟨fun hr => ?_, fun i hi => ?_⟩
      · exfalso
        refine hall (hnone l hl ?_)
        cases hr' : Region.ready .any (ops.extract 0 k) l with
        | nil => rfl
        | cons j r =>
          have := hready l j hl (by rw [hr']; simp)
          rw [hr] at this; cases this
      · obtain ⟨hik, hi'⟩ := hback l i hl hun hi
        have hio : i < ops.size := by omega
        have hset : (headB ops.size k l).setIfInBounds i true = headB ops.size k (l.setIfInBounds i true) := by
          simp only [headB]
          rw [Array.setIfInBounds_append_left]
          omega
        have hop := wpOpIn_mono (fun a w hk => ih (l.setIfInBounds i true) a w (by simpa using hl) hk) (h.2 i hi')
        rw [hset]
        unfold wpOpIn at hop ⊢
        rw [hex i hik] at hop
        rw [Array.getElem?_eq_getElem hio] at hop ⊢
        simp only at hop ⊢
        have hsi := hs i hio
        rw [Array.getElem?_eq_getElem hio] at hsi
        simp only [hik, if_true, Bool.and_eq_true, Option.isNone_iff_eq_none] at hsi
        have hw1 : ∀ y, Region.wanted ops[i] y = true := fun y => by simp [Region.wanted, hsi.1]
        rw [if_pos (hw1 _)] at hop ⊢
        exact wpIn_monoQ hq hop
end
theorem codeS_drawT {C : Cx} {ro : Option Nat} {nt : Nat} {ops : Array Oper} {fl : List DF} {B : List Nat} {val : Nat → AV} {st : Nat → Sto} {id k m : Nat} {env env' : Env} {σ' : Sto} (hm : C.P.follows .mixedOrders = true) (hs : sepOK ops k = true) (hmk : k + m = ops.size)
    (h : chk (ops.extract 0 k) fl B = true) (hlen : fl.length = (ops.extract 0 k).size)
    (good : ∀ i o, (ops.extract 0 k)[i]? = some o → Good C nt (ops.extract 0 k) fl val st env i o)
    (ht : drT C nt ops (fun e s => e = env' ∧ s = σ') m (fullB ops.size k) (envAt (ops.extract 0 k) val env (ops.extract 0 k).size) (st (rank fl (ops.extract 0 k).size))) : CodeS C ro nt (.region id ops true) env (st 0) .normal env' σ' := by
  intro w0 G a w hrel cr hcr
  have hi' : Inv C.gl w0 G (st 0) { w with drawn := w.drawn + 1 } := hrel.inv.heap rfl rfl rfl rfl
  refine wpIn_region_any hm ?_
  have hsz : (ops.extract 0 k).size = k := by simp; omega
  have hrep : Array.replicate ops.size false = headB ops.size k (Array.replicate k false) := by
    unfold headB
    rw [Array.replicate_append_replicate]
    congr 1; omega
  rw [hrep, ← hmk]
  have hanyd := anyD (C := C) (ro := cr) (nt := nt) (ws := w) (G0 := G) (σ0 := st 0) (df := a.defers) (w0 := w0) h hlen good
    (Q := fun e a2 w2 => (e = .normal → ∃ G2, Rel C w0 G2 nt (envAt (ops.extract 0 k) val env (ops.extract 0 k).size) (st (rank fl (ops.extract 0 k).size)) a2 w2 ∧ Ext G (st 0) w G2 (st (rank fl (ops.extract 0 k).size)) w2 ∧ a2.defers = a.defers) ∧ e = .normal)
    (fun G' a' w' h1 h2 h3 => ⟨fun _ => ⟨G', h1, h2, h3⟩, rfl⟩) k (Array.replicate k false) env 0 G a { w with drawn := w.drawn + 1 } ?_ ?_ ⟨hi', hrel.env⟩ (.heap G _ rfl) rfl
  · have := wpAnyIn_split (Q := fun e2 a' w' => e2 = .normal ∧ ∃ G' ms, Rel C w0 G' nt env' σ' a' w' ∧ Ext G (st 0) w G' σ' w' ∧ a'.defers = ms.map mk ++ a.defers ∧ Marks G' σ' w' w.heap.size ms) (m := m) hs
      (fun e a w hne hq => absurd hq.2 hne) (fun a2 w2 hq => by
        obtain ⟨G2, r1, r2, r3⟩ := hq.1 rfl
        exact drT_sound (G0 := G) (σ0 := st 0) (ws := w) (df := a.defers) (fun G3 a3 w3 h1 h2 h3 => ⟨rfl, G3, [], h1, h2, by simpa using h3, Marks.nil⟩) m _ _ _ G2 a2 w2 ht r1 r2 r3) k (Array.replicate k false) a { w with drawn := w.drawn + 1 } (by simp) hanyd
    rw [hmk] at this ⊢
    exact this
  · have := List.countP_le_length (p := fun i => !(Array.replicate k false).getD i false) (l := List.range (ops.extract 0 k).size)
    simp only [List.length_range] at this
    omega
  · exact {
      size := by rw [hsz]; simp
      cl := fun j i hj hi hL => by rw [hsz] at hj; simp [Array.getD_eq_getD_getElem?, hj] at hL
      mv := fun i hi hmv => by rw [hsz] at hi; simp [Array.getD_eq_getD_getElem?, hi]
      le := Nat.zero_le _
      env := fun t => ⟨fun i hi hL => by rw [hsz] at hi; simp [Array.getD_eq_getD_getElem?, hi] at hL, fun _ => rfl⟩ }
theorem WK.drawT {C : Cx} {ro : Option Nat} {nt : Nat} {Q : Exit → Env → Sto → Prop} {env : Env} {σ : Sto} {id : Nat} {ops : Array Oper} (k : Nat) (fl : List DF) (hm : C.P.follows .mixedOrders = true)
    (h : (sepOK ops k && chk (ops.extract 0 k) fl (Region.before (ops.extract 0 k)).toList) = true)
    (hw : wpD C nt (fun env σ => ∃ env' σ', drT C nt ops (fun e s => e = env' ∧ s = σ') (ops.size - k) (fullB ops.size k) env σ ∧ Q .normal env' σ') (((ops.extract 0 k).toList.map (roOf (ops.extract 0 k))).zip fl) [] [] env σ) : WK C ro nt (.oth (.region id ops true)) Q env σ := by
  intro c hc
  have hc' : c = .region id ops true := by
    cases c with
    | region id' ops' d => cases d with
      | false => cases hc
      | true => simp only [toK, K.oth.injEq] at hc; exact hc
    | goto l => simp only [toK, K.oth.injEq] at hc; exact hc
    | _ => first | (cases hc; done) | (simp only [toK, K.oth.injEq] at hc; exact hc)
  subst hc'
  rw [Bool.and_eq_true] at h
  have hlen : fl.length = (ops.extract 0 k).size := by
    have := h.2
    simp only [chk, Bool.and_eq_true, beq_iff_eq] at this; exact this.1
  have hk : k ≤ ops.size := by
    have := h.1
    simp only [sepOK, Bool.and_eq_true, decide_eq_true_eq] at this; exact this.1
  obtain ⟨st', val', h1, h2, _, h4, h5⟩ := wpD_sound (C := C) (nt := nt) (env0 := env) hlen (ops.extract 0 k).toList fl 0 [] [] env σ (fun _ => σ) (fun _ => .undef) rfl rfl rfl rfl (fun q hq => by simp [rank] at hq) (Nat.zero_le _) hw
  have hs0 : st' 0 = σ := h1 0 (Nat.zero_le _)
  obtain ⟨env', σ', ht, hq⟩ := h5
  have := codeS_drawT (ro := ro) (id := id) (env := env) hm h.1 (by omega) h.2 hlen (fun i o ho => h4 i o (Nat.zero_le _) ho) ht
  rw [hs0] at this
  exact ⟨_, _, _, this, hq⟩
end Go.Lg
namespace Go.Lg
def allI (rs : List Nat) (P : Nat → Prop) : Prop := match rs with | [] => True | i :: l => P i ∧ allI l P
theorem allI_mem {P : Nat → Prop} : ∀ {rs : List Nat}, allI rs P → ∀ i ∈ rs, P i
  | j :: l, h, i, hi => by
    rcases List.mem_cons.1 hi with rfl | hi
    · exact h.1
    · exact allI_mem h.2 i hi
theorem drT_step {C : Cx} {nt : Nat} {ops : Array Oper} {K : Env → Sto → Prop} {n : Nat} {listed : Array Bool} {env : Env} {σ : Sto} (rs : List Nat) (hr : Region.ready .any ops listed = rs) (hne : rs ≠ [])
    (h : allI rs fun i => ∃ o, ops[i]? = some o ∧ wpr C nt [roOf ops o] (drT C nt ops K n (listed.setIfInBounds i true)) env σ) : drT C nt ops K (n + 1) listed env σ :=
  ⟨fun h0 => absurd (hr.symm.trans h0) hne, fun i hi => allI_mem h i (by rw [← hr]; exact hi)⟩
theorem drT_done {C : Cx} {nt : Nat} {ops : Array Oper} {K : Env → Sto → Prop} {listed : Array Bool} {env : Env} {σ : Sto} (hr : Region.ready .any ops listed = []) (h : K env σ) : drT C nt ops K 0 listed env σ := ⟨hr, h⟩
end Go.Lg
