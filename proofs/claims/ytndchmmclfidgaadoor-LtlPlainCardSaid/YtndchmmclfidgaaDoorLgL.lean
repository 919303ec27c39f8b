/- Lg, part L: regions that draw the order of their operations. -/
import Derived.Test.YtndchmmclfidgaaDoorLgK
import Derived.OrdersIn
set_option linter.unusedVariables false
set_option linter.unusedSimpArgs false
namespace Go.Lg
open Go.RowKit

/-- mv: the operation may change the store; else: past how many of these it may stand earlier (bk) or later (fw). -/
structure DF where
  mv : Bool
  bk : Nat
  fw : Nat

/-- Operations whose answer does not hang on the store. -/
def pureOp : Op → Bool
  | .move _ | .assign _ | .pick .. | .fieldAddr .. | .field .. | .extract .. | .unOp .. | .nilCheck _ | .makeFunc .. | .build .. | .buildSlice .. | .makeInterface .. => true
  | .binOp .. => true
  | _ => false

def dstOf (ops : Array Oper) (i : Nat) : Option Tmp := (ops[i]?).bind (·.dst)
def tmpsOf (xs : List Operand) : List Tmp := xs.filterMap fun | .tmp t => some t | _ => none
def namesT (ops : Array Oper) (o : Oper) : List Tmp := o.dst.toList ++ tmpsOf o.op.operands.toList ++ (match o.guard with | some (j, _) => (dstOf ops j).toList | none => [])
def flAt (fl : List DF) (i : Nat) : DF := fl.getD i ⟨false, 0, 0⟩
def rank (fl : List DF) (i : Nat) : Nat := (fl.take i).countP (·.mv)
def isB (B : List Nat) (j i : Nat) : Bool := (B.getD j 0).testBit i

def chk1 (ops : Array Oper) (fl : List DF) (B : List Nat) (j : Nat) (o : Oper) (i : Nat) : Bool :=
  (!isB B j i || (decide (i < j) && o.after.toList.any fun e => Region.binds .any e && (e.on == i || isB B e.on i))) &&
  ((namesT ops o).all fun t => dstOf ops i != some t || i == j || (decide (i < j) && isB B j i) || (decide (j < i) && isB B i j)) &&
  (!(flAt fl i).mv || !decide (i < j) || (if (flAt fl j).mv then isB B j i else pureOp o.op || isB B j i || decide (rank fl j ≤ rank fl i + (flAt fl j).bk))) &&
  (!(flAt fl i).mv || !decide (j < i) || (flAt fl j).mv || pureOp o.op || isB B i j || decide (rank fl i < rank fl j + (flAt fl j).fw))

def chk (ops : Array Oper) (fl : List DF) (B : List Nat) : Bool :=
  fl.length == ops.size && (List.range ops.size).all fun j => match ops[j]? with
    | none => false
    | some o => (o.after.toList.all fun e => !Region.binds .any e || decide (e.on < j)) && (List.range ops.size).all fun i => chk1 ops fl B j o i

section
variable {ops : Array Oper} {fl : List DF} {B : List Nat}

theorem chk_at (h : chk ops fl B = true) {j : Nat} {o : Oper} (ho : ops[j]? = some o) :
    (∀ e ∈ o.after, Region.binds .any e = true → e.on < j) ∧ ∀ i, i < ops.size → chk1 ops fl B j o i = true := by
  simp only [chk, Bool.and_eq_true, List.all_eq_true, List.mem_range] at h
  have hj : j < ops.size := (Array.getElem?_eq_some_iff.1 ho).1
  have h2 := h.2 j hj
  rw [ho] at h2
  simp only [Bool.and_eq_true, List.all_eq_true, List.mem_range, Bool.or_eq_true, Bool.not_eq_true', decide_eq_true_eq] at h2
  refine ⟨fun e he hb => ?_, h2.2⟩
  rcases h2.1 e (Array.mem_toList_iff.2 he) with h3 | h3
  · rw [hb] at h3; cases h3
  · exact h3

theorem chk_b (h : chk ops fl B = true) {j i : Nat} {o : Oper} (ho : ops[j]? = some o) (hi : i < ops.size) (hb : isB B j i = true) : i < j ∧ ∃ e ∈ o.after, Region.binds .any e = true ∧ (e.on = i ∨ isB B e.on i = true) := by
  have h1 := (chk_at h ho).2 i hi
  simp only [chk1, Bool.and_eq_true, Bool.or_eq_true, hb, Bool.not_true, Bool.false_eq_true, false_or, decide_eq_true_eq, List.any_eq_true, beq_iff_eq] at h1
  obtain ⟨⟨⟨⟨h1, e, he, hbd, h2⟩, _⟩, _⟩, _⟩ := h1
  exact ⟨h1, e, Array.mem_toList_iff.1 he, hbd, h2⟩

theorem chk_n (h : chk ops fl B = true) {j i : Nat} {o : Oper} {t : Tmp} (ho : ops[j]? = some o) (hi : i < ops.size) (ht : t ∈ namesT ops o) (hd : dstOf ops i = some t) : i = j ∨ (i < j ∧ isB B j i = true) ∨ (j < i ∧ isB B i j = true) := by
  have h1 := (chk_at h ho).2 i hi
  simp only [chk1, Bool.and_eq_true, List.all_eq_true] at h1
  have h2 := h1.1.1.2 t ht
  simp only [hd, Bool.or_eq_true, bne_self_eq_false, Bool.false_eq_true, false_or, beq_iff_eq, Bool.and_eq_true, decide_eq_true_eq] at h2
  rcases h2 with (h2 | h2) | h2
  · exact .inl h2
  · exact .inr (.inl h2)
  · exact .inr (.inr h2)

theorem chk_m (h : chk ops fl B = true) {j i : Nat} {o : Oper} (ho : ops[j]? = some o) (hi : i < ops.size) (hij : i < j) (hm : (flAt fl i).mv = true) :
    if (flAt fl j).mv = true then isB B j i = true else pureOp o.op = true ∨ isB B j i = true ∨ rank fl j ≤ rank fl i + (flAt fl j).bk := by
  have h1 := (chk_at h ho).2 i hi
  simp only [chk1, Bool.and_eq_true, Bool.or_eq_true, hm, hij, Bool.not_true, Bool.false_eq_true, false_or, decide_true] at h1
  have h2 := h1.1.2
  split
  · rename_i e; rw [if_pos e] at h2; exact h2
  · rename_i e; rw [if_neg e] at h2
    simp only [Bool.or_eq_true, decide_eq_true_eq] at h2
    rcases h2 with (h2 | h2) | h2
    · exact .inl h2
    · exact .inr (.inl h2)
    · exact .inr (.inr h2)

theorem chk_f (h : chk ops fl B = true) {j i : Nat} {o : Oper} (ho : ops[j]? = some o) (hi : i < ops.size) (hij : j < i) (hm : (flAt fl i).mv = true) (hj : (flAt fl j).mv = false) :
    pureOp o.op = true ∨ isB B i j = true ∨ rank fl i < rank fl j + (flAt fl j).fw := by
  have h1 := (chk_at h ho).2 i hi
  simp only [chk1, Bool.and_eq_true, Bool.or_eq_true, hm, hj, hij, Bool.not_true, Bool.false_eq_true, false_or, decide_true, decide_eq_true_eq] at h1
  rcases h1.2 with (h2 | h2) | h2
  · exact .inl h2
  · exact .inr (.inl h2)
  · exact .inr (.inr h2)

theorem rank_succ (i : Nat) (hi : i < fl.length) : rank fl (i + 1) = rank fl i + if (flAt fl i).mv = true then 1 else 0 := by
  have e : flAt fl i = fl[i] := by simp [flAt, List.getD_eq_getElem?_getD, List.getElem?_eq_getElem hi]
  have e2 : fl.take (i + 1) = fl.take i ++ [fl[i]] := (List.take_append_getElem hi).symm
  rw [rank, e2, List.countP_append, List.countP_singleton, e]
  rfl

theorem rank_mono {i j : Nat} (h : i ≤ j) : rank fl i ≤ rank fl j := by
  have e : fl.take i = (fl.take j).take i := by rw [List.take_take, Nat.min_eq_left h]
  rw [rank, e]
  exact List.Sublist.countP_le (List.take_sublist _ _)

theorem rank_lt {i j : Nat} (h : i < j) (hj : j ≤ fl.length) (hm : (flAt fl i).mv = true) : rank fl i < rank fl j := by
  have h1 := rank_succ (fl := fl) i (by omega)
  rw [if_pos hm] at h1
  have := rank_mono (fl := fl) (show i + 1 ≤ j from h)
  omega

/-- The environment after the first i operations. -/
def envAt (ops : Array Oper) (val : Nat → AV) (env0 : Env) : Nat → Env
  | 0 => env0
  | i + 1 => putA (envAt ops val env0 i) (dstOf ops i) (val i)

/-- An environment after the operations of a set. -/
def EnvL (ops : Array Oper) (val : Nat → AV) (env0 : Env) (L : Nat → Prop) (env : Env) : Prop :=
  ∀ t, (∀ i, i < ops.size → L i → dstOf ops i = some t → (∀ j, j < ops.size → L j → dstOf ops j = some t → j ≤ i) → env t = val i) ∧ ((∀ i, i < ops.size → L i → dstOf ops i ≠ some t) → env t = env0 t)

theorem max_of {p : Nat → Prop} {n : Nat} (h : ∃ i, i < n ∧ p i) : ∃ i, i < n ∧ p i ∧ ∀ j, j < n → p j → j ≤ i := by
  induction n with
  | zero => obtain ⟨i, h, _⟩ := h; omega
  | succ n ih =>
    by_cases hn : p n
    · exact ⟨n, by omega, hn, fun j hj _ => by omega⟩
    · obtain ⟨i, hi, hp⟩ := h
      have hne : i ≠ n := by rintro rfl; exact hn hp
      obtain ⟨k, h1, h2, h3⟩ := ih ⟨i, by omega, hp⟩
      refine ⟨k, by omega, h2, fun j hj hp => ?_⟩
      have : j ≠ n := by rintro rfl; exact hn hp
      exact h3 j (by omega) hp

theorem EnvL.agree {val : Nat → AV} {env0 env env' : Env} {L L' : Nat → Prop} (h : EnvL ops val env0 L env) (h' : EnvL ops val env0 L' env') {t : Tmp} (hl : ∀ i, i < ops.size → dstOf ops i = some t → (L i ↔ L' i)) : env t = env' t := by
  by_cases hex : ∃ i, i < ops.size ∧ (L i ∧ dstOf ops i = some t)
  · obtain ⟨i, hi, ⟨h1, h2⟩, h3⟩ := max_of hex
    rw [(h t).1 i hi h1 h2 (fun j hj hL hd => h3 j hj ⟨hL, hd⟩)]
    exact ((h' t).1 i hi ((hl i hi h2).1 h1) h2 (fun j hj hL hd => h3 j hj ⟨(hl j hj hd).2 hL, hd⟩)).symm
  · rw [(h t).2 (fun i hi hL hd => hex ⟨i, hi, hL, hd⟩), (h' t).2 (fun i hi hL hd => hex ⟨i, hi, (hl i hi hd).2 hL, hd⟩)]

theorem envAt_L (val : Nat → AV) (env0 : Env) : ∀ k, k ≤ ops.size → EnvL ops val env0 (· < k) (envAt ops val env0 k)
  | 0, _ => fun t => ⟨fun i _ h => by omega, fun _ => rfl⟩
  | k + 1, hk => fun t => by
    obtain ⟨h1, h2⟩ := envAt_L val env0 k (by omega) t
    simp only [envAt]
    by_cases hd : dstOf ops k = some t
    · rw [hd]
      refine ⟨fun i hi hL hdi hmax => ?_, fun h => absurd hd (h k (by omega) (by omega))⟩
      have := hmax k (by omega) (by omega) hd
      have e : i = k := by omega
      subst e
      simp [putA, upd]
    · have e : putA (envAt ops val env0 k) (dstOf ops k) (val k) t = envAt ops val env0 k t := by
        cases hdk : dstOf ops k with
        | none => rfl
        | some d =>
          have : t ≠ d := by rintro rfl; exact hd hdk
          simp [putA, upd, this]
      rw [e]
      refine ⟨fun i hi hL hdi hmax => h1 i hi ?_ hdi fun j hj hj2 hdj => hmax j hj (by omega) hdj, fun h => h2 fun i hi hL => h i hi (by omega)⟩
      rcases Nat.lt_or_ge i k with h | h
      · exact h
      · have e : i = k := by omega
        subst e; exact absurd hdi hd

/-- What is known of operation i, done in order. -/
structure Good (C : Cx) (nt : Nat) (ops : Array Oper) (fl : List DF) (val : Nat → AV) (st : Nat → Sto) (env0 : Env) (i : Nat) (o : Oper) : Prop where
  g : gOK (guardA nt ops (envAt ops val env0 i) o)
  go : goesA (guardA nt ops (envAt ops val env0 i) o) = true →
    if (flAt fl i).mv = true then OpStep C o (ev C nt (envAt ops val env0 i)) (st (rank fl i)) (val i) (st (rank fl i + 1))
    else ∀ q, (pureOp o.op = true ∨ (rank fl i ≤ q + (flAt fl i).bk ∧ q ≤ rank fl i + (flAt fl i).fw ∧ q ≤ rank fl ops.size)) → OpStep C o (ev C nt (envAt ops val env0 i)) (st q) (val i) (st q)
  no : goesA (guardA nt ops (envAt ops val env0 i) o) = false → val i = .skp ∧ ((flAt fl i).mv = true → st (rank fl i + 1) = st (rank fl i))
  ao : goesA (guardA nt ops (envAt ops val env0 i) o) = true → (flAt fl i).mv = true → isCall o.op = false → (aop C (ev C nt (envAt ops val env0 i)) (st (rank fl i)) o.op).c ∧ val i = (aop C (ev C nt (envAt ops val env0 i)) (st (rank fl i)) o.op).v ∧ st (rank fl i + 1) = (aop C (ev C nt (envAt ops val env0 i)) (st (rank fl i)) o.op).s

theorem OpStep.congr {C : Cx} {o : Oper} {ρ ρ' : Operand → AV} {σ σ' : Sto} {v : AV} (h : OpStep C o ρ σ v σ') (he : ∀ x ∈ o.op.operands.toList, ρ x = ρ' x) : OpStep C o ρ' σ v σ' :=
  fun ro w0 G a w hi hx next Q hn => h ro w0 G a w hi (fun x hm => by rw [he x hm]; exact hx x hm) next Q hn

theorem countP_lt {α : Type} {p q : α → Bool} (hpq : ∀ x, q x = true → p x = true) {a : α} : ∀ {l : List α}, a ∈ l → p a = true → q a = false → l.countP q < l.countP p
  | x :: l, h, hp, hq => by
    rw [List.countP_cons, List.countP_cons]
    have hle : l.countP q ≤ l.countP p := List.countP_mono_left fun x _ => hpq x
    rcases List.mem_cons.1 h with rfl | h
    · simp [hp, hq]; omega
    · have := countP_lt hpq h hp hq
      have h2 := hpq x
      cases hqx : q x <;> cases hpx : p x <;> simp_all <;> omega

/-- What is known of the operations that are listed. -/
structure LS (ops : Array Oper) (fl : List DF) (B : List Nat) (val : Nat → AV) (env0 : Env) (listed : Array Bool) (m : Nat) (env : Env) : Prop where
  size : listed.size = ops.size
  cl : ∀ j i, j < ops.size → i < ops.size → listed.getD j false = true → isB B j i = true → listed.getD i false = true
  mv : ∀ i, i < ops.size → (flAt fl i).mv = true → (listed.getD i false = true ↔ rank fl i < m)
  le : m ≤ rank fl ops.size
  env : EnvL ops val env0 (fun i => listed.getD i false = true) env

theorem ready_b (h : chk ops fl B = true) {val : Nat → AV} {env0 env : Env} {listed : Array Bool} {m : Nat} (hl : LS ops fl B val env0 listed m env) {i : Nat} (hr : i ∈ Region.ready .any ops listed) :
    ∃ o, ops[i]? = some o ∧ i < ops.size ∧ listed.getD i false = false ∧ ∀ k, k < ops.size → isB B i k = true → listed.getD k false = true := by
  obtain ⟨h0, o, ho, hall⟩ := mem_ready.1 hr
  have hi : i < ops.size := (Array.getElem?_eq_some_iff.1 ho).1
  refine ⟨o, ho, hi, ?_, fun k hk hb => ?_⟩
  · have : i < listed.size := by rw [hl.size]; exact hi
    simpa [Array.getD_eq_getD_getElem?, this] using h0
  · obtain ⟨_, e, he, hbd, h2⟩ := chk_b h ho hk hb
    have h3 := hall e he hbd
    rcases h2 with rfl | h2
    · exact h3
    · exact hl.cl e.on k (Nat.lt_trans ((chk_at h ho).1 e he hbd) hi) hk h3 h2

theorem anyD {C : Cx} {ro : Option Nat} {nt : Nat} {val : Nat → AV} {st : Nat → Sto} {env0 : Env} (h : chk ops fl B = true) (hlen : fl.length = ops.size) (good : ∀ i o, ops[i]? = some o → Good C nt ops fl val st env0 i o)
    {w0 : World} {Q : Exit → Act → World → Prop} {G0 : Gh} {σ0 : Sto} {ws : World} {df : List Deferred}
    (hQ : ∀ G a w, Rel C w0 G nt (envAt ops val env0 ops.size) (st (rank fl ops.size)) a w → Ext G0 σ0 ws G (st (rank fl ops.size)) w → a.defers = df → Q .normal a w) :
    ∀ fuel listed env m G a w, (List.range ops.size).countP (fun i => !listed.getD i false) ≤ fuel → LS ops fl B val env0 listed m env → Rel C w0 G nt env (st m) a w → Ext G0 σ0 ws G (st m) w → a.defers = df →
      wpAnyIn (FW ro) 0 C.P .any ops Q fuel listed a w := by
  have hempty : ∀ listed env m G a w, LS ops fl B val env0 listed m env → Rel C w0 G nt env (st m) a w → Ext G0 σ0 ws G (st m) w → a.defers = df → Region.ready .any ops listed = [] → Q .normal a w := by
    intro listed env m G a w hl hrel hext hdf hr
    have hall : ∀ i, i < ops.size → listed.getD i false = true := by
      intro i
      induction i using Nat.strongRecOn with
      | _ i ih =>
        intro hi
        cases hli : listed.getD i false with
        | true => rfl
        | false =>
          exfalso
          have : i ∈ Region.ready .any ops listed := by
            refine mem_ready.2 ⟨?_, ops[i], Array.getElem?_eq_getElem hi, fun e he hb => ?_⟩
            · have hs : i < listed.size := by rw [hl.size]; exact hi
              simpa [Array.getD_eq_getD_getElem?, hs] using hli
            · have hlt := (chk_at h (Array.getElem?_eq_getElem hi)).1 e he hb
              exact ih e.on hlt (Nat.lt_trans hlt hi)
          rw [hr] at this; cases this
    have hm : m = rank fl ops.size := by
      rcases Nat.lt_or_ge m (rank fl ops.size) with hlt | hge
      · exfalso
        -- the moving operation of rank m
        have : ∀ k, k ≤ ops.size → m < rank fl k → ∃ i, i < k ∧ (flAt fl i).mv = true ∧ rank fl i = m := by
          intro k
          induction k with
          | zero => intro _ h; simp [rank] at h
          | succ k ih =>
            intro hk hlt
            have hs := rank_succ (fl := fl) k (by omega)
            by_cases hmv : (flAt fl k).mv = true
            · rw [if_pos hmv] at hs
              by_cases e : rank fl k = m
              · exact ⟨k, by omega, hmv, e⟩
              · obtain ⟨i, h1, h2⟩ := ih (by omega) (by omega)
                exact ⟨i, by omega, h2⟩
            · rw [if_neg hmv] at hs
              obtain ⟨i, h1, h2⟩ := ih (by omega) (by omega)
              exact ⟨i, by omega, h2⟩
        obtain ⟨i, h1, h2, h3⟩ := this ops.size (Nat.le_refl _) hlt
        have := (hl.mv i h1 h2).1 (hall i h1)
        omega
      · have := hl.le; omega
    subst hm
    have he : env = envAt ops val env0 ops.size := by
      funext t
      exact hl.env.agree (envAt_L val env0 ops.size (Nat.le_refl _)) fun i hi _ => ⟨fun _ => hi, fun _ => hall i hi⟩
    subst he
    exact hQ G a w hrel hext hdf
  intro fuel
  induction fuel with
  | zero =>
    intro listed env m G a w hc hl hrel hext hdf
    have hr : Region.ready .any ops listed = [] := by
      cases hr : Region.ready .any ops listed with
      | nil => rfl
      | cons i l =>
        obtain ⟨o, ho, hi, h1, _⟩ := ready_b h hl (i := i) (by rw [hr]; simp)
        have := List.countP_eq_zero.1 (Nat.le_zero.1 hc) i (List.mem_range.2 hi)
        simp [h1] at this
    exact ⟨hr, hempty listed env m G a w hl hrel hext hdf hr⟩
  | succ fuel ih =>
    intro listed env m G a w hc hl hrel hext hdf
    refine ⟨hempty listed env m G a w hl hrel hext hdf, fun i hr => ?_⟩
    obtain ⟨o, ho, hi, hun, hbef⟩ := ready_b h hl hr
    have hgood := good i o ho
    -- the environments agree where the operation looks
    have hag : ∀ t ∈ namesT ops o, env t = envAt ops val env0 i t := fun t ht => by
      refine hl.env.agree (envAt_L val env0 i (by omega)) fun j hj hd => ?_
      rcases chk_n h ho hj ht hd with rfl | ⟨h1, h2⟩ | ⟨h1, h2⟩
      · exact ⟨fun hL => absurd (hL.symm.trans hun) (by decide), fun hL => absurd hL (Nat.lt_irrefl _)⟩
      · exact ⟨fun _ => h1, fun _ => hbef j hj h2⟩
      · exact ⟨fun hL => absurd ((hl.cl j i hj hi hL h2).symm.trans hun) (by decide), fun hL => absurd hL (by omega)⟩
    have hev : ∀ x ∈ o.op.operands.toList, ev C nt (envAt ops val env0 i) x = ev C nt env x := fun x hx => by
      cases x with
      | tmp t =>
        have : t ∈ namesT ops o := by
          simp only [namesT, List.mem_append]
          exact .inl (.inr (List.mem_filterMap.2 ⟨.tmp t, hx, rfl⟩))
        simp only [ev, hag t this]
      | _ => rfl
    have hgd : guardA nt ops env o = guardA nt ops (envAt ops val env0 i) o := by
      unfold guardA
      cases hg : o.guard with
      | none => rfl
      | some jw =>
        obtain ⟨j, want⟩ := jw
        simp only
        cases hd : (ops[j]?).bind (·.dst) with
        | none => rfl
        | some d =>
          have : d ∈ namesT ops o := by
            simp only [namesT, List.mem_append, hg]
            exact .inr (by simp [dstOf, hd])
          simp only [hag d this]
    -- what is listed then
    have hset : ∀ k, k < ops.size → (listed.setIfInBounds i true).getD k false = if k = i then true else listed.getD k false := fun k hk => by
      by_cases e : k = i
      · subst e
        have : k < listed.size := by rw [hl.size]; exact hk
        simp [Array.getD_eq_getD_getElem?, this]
      · rw [if_neg e]; exact getD_set_ne false (Ne.symm e)
    have hlater : ∀ k, k < ops.size → isB B k i = true → listed.getD k false = false := fun k hk hb => by
      cases hL : listed.getD k false with
      | false => rfl
      | true => have := hl.cl k i hk hi hL hb; rw [hun] at this; cases this
    have hcnt : (List.range ops.size).countP (fun k => !(listed.setIfInBounds i true).getD k false) ≤ fuel := by
      have : (List.range ops.size).countP (fun k => !(listed.setIfInBounds i true).getD k false) < (List.range ops.size).countP (fun k => !listed.getD k false) := by
        refine countP_lt (a := i) (fun x hx => ?_) (List.mem_range.2 hi) (by simp [hun]) (by simp [hset i hi])
        by_cases e : x = i
        · subst e; simp [hun]
        · rw [getD_set_ne false (Ne.symm e)] at hx; exact hx
      omega
    have hdst : dstOf ops i = o.dst := by simp [dstOf, ho]
    have hmle : (flAt fl i).mv = true → m = rank fl i := fun hmv => by
      have h1 : ¬ rank fl i < m := fun h => by have := (hl.mv i hi hmv).2 h; rw [hun] at this; cases this
      rcases Nat.lt_or_ge m (rank fl i) with hlt | hge
      · exfalso
        have : ∀ k, k ≤ i → m < rank fl k → ∃ j, j < k ∧ (flAt fl j).mv = true ∧ rank fl j = m := by
          intro k
          induction k with
          | zero => intro _ h; simp [rank] at h
          | succ k ih =>
            intro hk hlt
            have hs := rank_succ (fl := fl) k (by omega)
            by_cases hmv : (flAt fl k).mv = true
            · rw [if_pos hmv] at hs
              by_cases e : rank fl k = m
              · exact ⟨k, by omega, hmv, e⟩
              · obtain ⟨j, h1, h2⟩ := ih (by omega) (by omega)
                exact ⟨j, by omega, h2⟩
            · rw [if_neg hmv] at hs
              obtain ⟨j, h1, h2⟩ := ih (by omega) (by omega)
              exact ⟨j, by omega, h2⟩
        obtain ⟨j, h2, h3, h4⟩ := this i (Nat.le_refl _) hlt
        have h5 := chk_m h ho (show j < ops.size by omega) h2 h3
        rw [if_pos hmv] at h5
        have := (hl.mv j (by omega) h3).1 (hbef j (by omega) h5)
        omega
      · omega
    have hLS : ∀ m', (m' = if (flAt fl i).mv = true then m + 1 else m) → LS ops fl B val env0 (listed.setIfInBounds i true) m' (putA env o.dst (val i)) := fun m' hm' => {
      size := by simp [hl.size]
      cl := fun j k hj hk hL hb => by
        rw [hset k hk]
        rw [hset j hj] at hL
        by_cases ek : k = i
        · rw [if_pos ek]
        · rw [if_neg ek]
          by_cases ej : j = i
          · subst ej; exact hbef k hk hb
          · rw [if_neg ej] at hL; exact hl.cl j k hj hk hL hb
      mv := fun k hk hmk => by
        rw [hset k hk]
        by_cases ek : k = i
        · subst ek
          rw [if_pos hmk] at hm'
          have := hmle hmk
          simp; omega
        · rw [if_neg ek, hl.mv k hk hmk]
          by_cases hmi : (flAt fl i).mv = true
          · rw [if_pos hmi] at hm'
            have hmr := hmle hmi
            have hne : rank fl k ≠ rank fl i := by
              rcases Nat.lt_or_gt_of_ne ek with hlt | hgt
              · have := rank_lt (fl := fl) hlt (by omega) hmk; omega
              · have := rank_lt (fl := fl) hgt (by omega) hmi; omega
            omega
          · rw [if_neg hmi] at hm'; omega
      le := by
        by_cases hmi : (flAt fl i).mv = true
        · rw [if_pos hmi] at hm'
          have hmr := hmle hmi
          have := rank_lt (fl := fl) hi (by omega) hmi
          omega
        · rw [if_neg hmi] at hm'; have := hl.le; omega
      env := fun t => by
        by_cases hd : o.dst = some t
        · have e : putA env o.dst (val i) t = val i := by rw [hd]; simp [putA, upd]
          rw [e]
          have ht : t ∈ namesT ops o := by simp [namesT, hd]
          refine ⟨fun k hk hL hdk hmax => ?_, fun hno => absurd (hdst.trans hd) (hno i hi (by show (listed.setIfInBounds i true).getD i false = true; rw [hset i hi, if_pos rfl]))⟩
          by_cases ek : k = i
          · subst ek; rfl
          · exfalso
            have hL : (listed.setIfInBounds i true).getD k false = true := hL
            rw [hset k hk, if_neg ek] at hL
            have hle := hmax i hi (by show (listed.setIfInBounds i true).getD i false = true; rw [hset i hi, if_pos rfl]) (hdst.trans hd)
            rcases chk_n h ho hk ht hdk with rfl | ⟨h1, h2⟩ | ⟨h1, h2⟩
            · exact ek rfl
            · omega
            · rw [hlater k hk h2] at hL; cases hL
        · have e : putA env o.dst (val i) t = env t := by
            cases hdo : o.dst with
            | none => rfl
            | some d =>
              have : t ≠ d := by rintro rfl; exact hd hdo
              simp [putA, upd, this]
          rw [e]
          obtain ⟨e1, e2⟩ := hl.env t
          refine ⟨fun k hk hL hdk hmax => e1 k hk ?_ hdk fun j hj hLj hdj => hmax j hj ?_ hdj, fun hno => e2 fun k hk hL => hno k hk ?_⟩
          · have hL : (listed.setIfInBounds i true).getD k false = true := hL
            rw [hset k hk] at hL
            by_cases ek : k = i
            · subst ek; exact absurd (hdst.symm.trans hdk) hd
            · rw [if_neg ek] at hL; exact hL
          · show (listed.setIfInBounds i true).getD j false = true
            rw [hset j hj]
            by_cases ej : j = i
            · rw [if_pos ej]
            · rw [if_neg ej]; exact hLj
          · show (listed.setIfInBounds i true).getD k false = true
            rw [hset k hk]
            by_cases ek : k = i
            · rw [if_pos ek]
            · rw [if_neg ek]; exact hL }
    unfold wpOpIn
    simp only [ho]
    rw [wanted_eq hrel.env (by rw [hgd]; exact hgood.g)]
    rw [hgd]
    cases hgo : goesA (guardA nt ops (envAt ops val env0 i) o) with
    | true =>
      simp only [if_true]
      have hgo' := hgood.go hgo
      have hstep : ∃ m', (m' = if (flAt fl i).mv = true then m + 1 else m) ∧ OpStep C o (ev C nt env) (st m) (val i) (st m') := by
        by_cases hmi : (flAt fl i).mv = true
        · rw [if_pos hmi] at hgo' ⊢
          have hmr := hmle hmi
          rw [← hmr] at hgo'
          exact ⟨m + 1, rfl, hgo'.congr hev⟩
        · rw [if_neg hmi] at hgo' ⊢
          refine ⟨m, rfl, (hgo' m ?_).congr hev⟩
          by_cases hp : pureOp o.op = true
          · exact .inl hp
          · refine .inr ⟨?_, ?_, hl.le⟩
            · rcases Nat.lt_or_ge (m + (flAt fl i).bk) (rank fl i) with hlt | hge
              · exfalso
                have : ∀ k, k ≤ i → m < rank fl k → ∃ j, j < k ∧ (flAt fl j).mv = true ∧ rank fl j = m := by
                  intro k
                  induction k with
                  | zero => intro _ h; simp [rank] at h
                  | succ k ih =>
                    intro hk hlt
                    have hs := rank_succ (fl := fl) k (by omega)
                    by_cases hmv : (flAt fl k).mv = true
                    · rw [if_pos hmv] at hs
                      by_cases e : rank fl k = m
                      · exact ⟨k, by omega, hmv, e⟩
                      · obtain ⟨j, h1, h2⟩ := ih (by omega) (by omega)
                        exact ⟨j, by omega, h2⟩
                    · rw [if_neg hmv] at hs
                      obtain ⟨j, h1, h2⟩ := ih (by omega) (by omega)
                      exact ⟨j, by omega, h2⟩
                obtain ⟨j, h2, h3, h4⟩ := this i (Nat.le_refl _) (by omega)
                have h5 := chk_m h ho (show j < ops.size by omega) h2 h3
                rw [if_neg hmi] at h5
                rcases h5 with h5 | h5 | h5
                · exact hp h5
                · have := (hl.mv j (by omega) h3).1 (hbef j (by omega) h5); omega
                · omega
              · exact hge
            · rcases Nat.lt_or_ge (rank fl i + (flAt fl i).fw) m with hlt | hge
              · exfalso
                have : ∀ k, k ≤ ops.size → rank fl i + (flAt fl i).fw < rank fl k → ∃ j, j < k ∧ (flAt fl j).mv = true ∧ rank fl j = rank fl i + (flAt fl i).fw := by
                  intro k
                  induction k with
                  | zero => intro _ h; simp [rank] at h
                  | succ k ih =>
                    intro hk hlt
                    have hs := rank_succ (fl := fl) k (by omega)
                    by_cases hmv : (flAt fl k).mv = true
                    · rw [if_pos hmv] at hs
                      by_cases e : rank fl k = rank fl i + (flAt fl i).fw
                      · exact ⟨k, by omega, hmv, e⟩
                      · obtain ⟨j, h1, h2⟩ := ih (by omega) (by omega)
                        exact ⟨j, by omega, h2⟩
                    · rw [if_neg hmv] at hs
                      obtain ⟨j, h1, h2⟩ := ih (by omega) (by omega)
                      exact ⟨j, by omega, h2⟩
                obtain ⟨j, h2, h3, h4⟩ := this ops.size (Nat.le_refl _) (by have := hl.le; omega)
                have hLj := (hl.mv j h2 h3).2 (by omega)
                have hij : i < j := by
                  rcases Nat.lt_or_ge i j with h | h
                  · exact h
                  · exfalso
                    rcases Nat.lt_or_eq_of_le h with h | rfl
                    · have := rank_lt (fl := fl) h (by omega) h3; omega
                    · exact hmi h3
                have h5 := chk_f h ho h2 hij h3 (by simpa using hmi)
                rcases h5 with h5 | h5 | h5
                · exact hp h5
                · rw [hlater j h2 h5] at hLj; cases hLj
                · omega
              · exact hge
      obtain ⟨m', hm', hstep⟩ := hstep
      refine hstep ro w0 G a w hrel.inv (fun x _ => hrel.env.ev hrel.inv x) _ _ fun G' v' w' hr hi' he => ?_
      refine ih _ _ m' G' _ w' hcnt (hLS m' hm') ⟨hi', (hrel.env.mono he.le).put hr o.dst⟩ (hext.trans he) ?_
      rw [← hdf]; cases o.dst <;> rfl
    | false =>
      simp only [Bool.false_eq_true, if_false]
      refine ⟨fun _ _ => trivial, ?_⟩
      obtain ⟨hv, hs⟩ := hgood.no hgo
      have hst : ∃ m', (m' = if (flAt fl i).mv = true then m + 1 else m) ∧ st m' = st m := by
        by_cases hmi : (flAt fl i).mv = true
        · rw [if_pos hmi]
          have hmr := hmle hmi
          exact ⟨_, rfl, by rw [hmr]; exact hs hmi⟩
        · rw [if_neg hmi]; exact ⟨_, rfl, rfl⟩
      obtain ⟨m', hm', hsm⟩ := hst
      refine ih _ _ m' G _ w hcnt (hLS m' hm') ⟨by rw [hsm]; exact hrel.inv, by rw [hv]; exact hrel.env.put (rep_skp G) o.dst⟩ (by rw [hsm]; exact hext) ?_
      rw [← hdf]; cases o.dst <;> rfl
end

/-! ### What such a region asks -/
theorem aop_pure {C : Cx} {ρ : Operand → AV} {op : Op} (h : pureOp op = true) (σ σ' : Sto) : (aop C ρ σ op).s = σ ∧ aop C ρ σ' op = ⟨(aop C ρ σ op).c, (aop C ρ σ op).v, σ'⟩ := by
  cases op <;> first | (cases h; done) | skip
  case move => exact ⟨rfl, rfl⟩
  case assign => exact ⟨rfl, rfl⟩
  case pick => exact ⟨rfl, rfl⟩
  case fieldAddr t x f => simp only [aop, faA]; split <;> exact ⟨rfl, rfl⟩
  case field t x f => simp only [aop, fldA]; split <;> exact ⟨rfl, rfl⟩
  case extract x k => simp only [aop, extA]; split <;> exact ⟨rfl, rfl⟩
  case binOp => simp only [aop, binA]; split <;> exact ⟨rfl, rfl⟩
  case unOp => simp only [aop, unA]; split <;> exact ⟨rfl, rfl⟩
  case nilCheck => exact ⟨rfl, rfl⟩
  case makeFunc => simp only [aop, mkfA]; split <;> exact ⟨rfl, rfl⟩
  case makeInterface => simp only [aop, ifaceA]; split <;> exact ⟨rfl, rfl⟩
  case build => simp only [aop, bldA]; split <;> exact ⟨rfl, rfl⟩
  case buildSlice => simp only [aop, bslA]; split <;> exact ⟨rfl, rfl⟩

/-- What still is to hold, at so many states to come. -/
abbrev Obl := List (Nat × (Sto → Prop))
def oblOK (σ : Sto) : Obl → Prop
  | [] => True
  | p :: ps => (if p.1 = 0 then True else p.2 σ) ∧ oblOK σ ps
def oblDec : Obl → Obl
  | [] => []
  | p :: ps => (p.1 - 1, p.2) :: oblDec ps
def allS (P : Sto → Prop) : List Sto → Prop
  | [] => True
  | σ :: l => P σ ∧ allS P l

theorem oblOK_at {σ : Sto} {p : Nat × (Sto → Prop)} : ∀ {ob : Obl}, oblOK σ ob → p ∈ ob → 0 < p.1 → p.2 σ
  | q :: ob, h, hp, h0 => by
    rcases List.mem_cons.1 hp with rfl | hp
    · have := h.1; rw [if_neg (by omega)] at this; exact this
    · exact oblOK_at h.2 hp h0
theorem oblDec_at {p : Nat × (Sto → Prop)} : ∀ {ob : Obl}, p ∈ ob → (p.1 - 1, p.2) ∈ oblDec ob
  | q :: ob, hp => by
    rcases List.mem_cons.1 hp with rfl | hp
    · simp [oblDec]
    · simp only [oblDec, List.mem_cons]; exact .inr (oblDec_at hp)
theorem allS_at {P : Sto → Prop} {σ : Sto} : ∀ {l : List Sto}, allS P l → σ ∈ l → P σ
  | τ :: l, h, hm => by
    rcases List.mem_cons.1 hm with rfl | hm
    · exact h.1
    · exact allS_at h.2 hm

/-- The operation answers v and leaves the store. -/
def sameR (v : AV) (σ : Sto) (r : AR) : Prop := r.c ∧ r.v = v ∧ r.s = σ
/-- The operation leaves the store; then K. -/
def stillR (σ : Sto) (r : AR) (K : AV → Prop) : Prop := r.c ∧ r.s = σ ∧ K r.v
/-- The operation; then K. -/
def moveR (r : AR) (K : AV → Sto → Prop) : Prop := r.c ∧ K r.v r.s

theorem call_notPure {op : Op} (h : isCall op = true) : pureOp op = false := by
  cases op with
  | call c => rfl
  | _ => first | rfl | cases h
/-- A call that answers v and leaves the store. -/
def qcall (C : Cx) (ρ : Operand → AV) (op : Op) (v : AV) (σ0 : Sto) : Prop := ∀ o : Oper, o.op = op → OpStep C o ρ σ0 v σ0

def wpD (C : Cx) (nt : Nat) (K : Env → Sto → Prop) : List (RO × DF) → List Sto → Obl → Env → Sto → Prop
  | [], _, _ => K
  | (r, f) :: rs, hist, ob => fun env σ => gdR C nt r.gd env
      (if f.mv = true then (if isCall r.op = true then callR C (ev C nt env) σ r.op (fun v σ1 => oblOK σ1 ob ∧ wpD C nt K rs (σ :: hist) (oblDec ob) (putA env r.dst v) σ1)
          else moveR (aop C (ev C nt env) σ r.op) fun v σ1 => oblOK σ1 ob ∧ wpD C nt K rs (σ :: hist) (oblDec ob) (putA env r.dst v) σ1)
        else if isCall r.op = true then (∃ v, qcall C (ev C nt env) r.op v σ ∧ allS (qcall C (ev C nt env) r.op v) (hist.take f.bk) ∧ wpD C nt K rs hist (if f.fw = 0 then ob else (f.fw, qcall C (ev C nt env) r.op v) :: ob) (putA env r.dst v) σ)
        else isCall r.op = false ∧ stillR σ (aop C (ev C nt env) σ r.op) fun v => if pureOp r.op = true then wpD C nt K rs hist ob (putA env r.dst v) σ else
          allS (fun σ0 => sameR v σ0 (aop C (ev C nt env) σ0 r.op)) (hist.take f.bk) ∧ wpD C nt K rs hist (if f.fw = 0 then ob else (f.fw, fun σ0 => sameR v σ0 (aop C (ev C nt env) σ0 r.op)) :: ob) (putA env r.dst v) σ)
      (if f.mv = true then oblOK σ ob ∧ wpD C nt K rs (σ :: hist) (oblDec ob) (putA env r.dst .skp) σ else wpD C nt K rs hist ob (putA env r.dst .skp) σ)

section
variable {C : Cx} {nt : Nat} {ops : Array Oper} {fl : List DF}

theorem envAt_congr {val val' : Nat → AV} {env0 : Env} : ∀ k, (∀ i, i < k → val' i = val i) → envAt ops val' env0 k = envAt ops val env0 k
  | 0, _ => rfl
  | k + 1, h => by simp only [envAt]; rw [envAt_congr k fun i hi => h i (by omega), h k (by omega)]

set_option maxHeartbeats 400000 in
theorem wpD_sound {K : Env → Sto → Prop} {env0 : Env} (hlen : fl.length = ops.size) : ∀ (os : List Oper) (fs : List DF) (k : Nat) (hist : List Sto) (ob : Obl) (env : Env) (σ : Sto) (st : Nat → Sto) (val : Nat → AV),
    ops.toList.drop k = os → fl.drop k = fs → st (rank fl k) = σ → env = envAt ops val env0 k → (∀ q, q < rank fl k → hist[rank fl k - 1 - q]? = some (st q)) → k ≤ ops.size →
    wpD C nt K ((os.map (roOf ops)).zip fs) hist ob env σ →
    ∃ st' val', (∀ q, q ≤ rank fl k → st' q = st q) ∧ (∀ i, i < k → val' i = val i) ∧ (∀ p ∈ ob, ∀ q, rank fl k < q → q ≤ rank fl k + p.1 → q ≤ rank fl ops.size → p.2 (st' q)) ∧
      (∀ i o, k ≤ i → ops[i]? = some o → Good C nt ops fl val' st' env0 i o) ∧ K (envAt ops val' env0 ops.size) (st' (rank fl ops.size))
  | [], fs, k, hist, ob, env, σ, st, val, hd, hf, hst, henv, hh, hk, h => by
    have hk2 : k = ops.size := by
      have := List.drop_eq_nil_iff.1 hd
      simp at this; omega
    subst hk2
    refine ⟨st, val, fun _ _ => rfl, fun _ _ => rfl, fun p hp q h1 h2 h3 => by omega, fun i o hi ho => ?_, ?_⟩
    · have := (Array.getElem?_eq_some_iff.1 ho).1; omega
    · have hz : (List.map (roOf ops) []).zip fs = [] := rfl
      rw [hz] at h
      rw [← henv, hst]; exact h
  | o :: os, fs, k, hist, ob, env, σ, st, val, hd, hf, hst, henv, hh, hk, h => by
    have ho : ops[k]? = some o := by
      have h1 : (ops.toList.drop k)[0]? = some o := by rw [hd]; rfl
      rw [List.getElem?_drop, Nat.add_zero, Array.getElem?_toList] at h1
      exact h1
    have hk1 : k < ops.size := (Array.getElem?_eq_some_iff.1 ho).1
    have hd2 : ops.toList.drop (k + 1) = os := by rw [← List.drop_drop, hd]; rfl
    obtain ⟨f, fs', rfl, hfk⟩ : ∃ f fs', fs = f :: fs' ∧ flAt fl k = f := by
      have : fl.drop k = fl[k] :: fl.drop (k + 1) := List.drop_eq_getElem_cons (by omega)
      exact ⟨fl[k], fl.drop (k + 1), hf.symm.trans this, by simp [flAt, List.getD_eq_getElem?_getD, List.getElem?_eq_getElem (show k < fl.length by omega)]⟩
    have hf2 : fl.drop (k + 1) = fs' := by rw [← List.drop_drop, hf]; rfl
    have hrk := rank_succ (fl := fl) k (by omega)
    rw [hfk] at hrk
    have hdst : dstOf ops k = o.dst := by simp [dstOf, ho]
    have hz : (List.map (roOf ops) (o :: os)).zip (f :: fs') = (roOf ops o, f) :: (List.map (roOf ops) os).zip fs' := rfl
    rw [hz] at h
    simp only [wpD] at h
    obtain ⟨hg, hy, hn⟩ := guard_ro h
    have tot : rank fl (k + 1) ≤ rank fl ops.size := rank_mono (by omega)
    -- a moving operation, whatever it did
    have moved : ∀ v σ1, f.mv = true → oblOK σ1 ob → wpD C nt K ((os.map (roOf ops)).zip fs') (σ :: hist) (oblDec ob) (putA env o.dst v) σ1 →
        ∃ st' val', (∀ q, q ≤ rank fl k → st' q = st q) ∧ (∀ i, i < k → val' i = val i) ∧ (∀ p ∈ ob, ∀ q, rank fl k < q → q ≤ rank fl k + p.1 → q ≤ rank fl ops.size → p.2 (st' q)) ∧
          (∀ i o, k + 1 ≤ i → ops[i]? = some o → Good C nt ops fl val' st' env0 i o) ∧ K (envAt ops val' env0 ops.size) (st' (rank fl ops.size)) ∧ st' (rank fl k + 1) = σ1 ∧ val' k = v := by
      intro v σ1 hmv hob hw
      rw [if_pos hmv] at hrk
      obtain ⟨st', val', h1, h2, h3, h4, h5⟩ := wpD_sound (K := K) (env0 := env0) hlen os fs' (k + 1) (σ :: hist) (oblDec ob) (putA env o.dst v) σ1
        (fun q => if q ≤ rank fl k then st q else σ1) (fun i => if i < k then val i else v) hd2 hf2 (if_neg (by omega))
        (by simp only [envAt, hdst, Nat.lt_irrefl, if_false]; rw [henv]; congr 1; exact (envAt_congr k fun i hi => by simp [hi]).symm)
        (fun q hq => by
          rw [hrk] at hq ⊢
          by_cases e : q = rank fl k
          · subst e; simp [hst]
          · have := hh q (by omega)
            have e2 : rank fl k + 1 - 1 - q = (rank fl k - 1 - q) + 1 := by omega
            rw [e2, List.getElem?_cons_succ, this, if_pos (by omega)])
        (by omega) hw
      have hs1 : st' (rank fl k + 1) = σ1 := by rw [h1 _ (by omega), if_neg (by omega)]
      refine ⟨st', val', fun q hq => by rw [h1 q (by omega), if_pos hq], fun i hi => by rw [h2 i (by omega), if_pos hi], fun p hp q g1 g2 g3 => ?_, h4, h5, hs1, by rw [h2 k (by omega), if_neg (by omega)]⟩
      by_cases e : q = rank fl k + 1
      · subst e; rw [hs1]; exact oblOK_at hob hp (by omega)
      · exact h3 _ (oblDec_at hp) q (by omega) (by show q ≤ _ + (p.1 - 1); omega) g3
    have stilled : ∀ v ob', f.mv = false → (∀ p ∈ ob, p ∈ ob') → wpD C nt K ((os.map (roOf ops)).zip fs') hist ob' (putA env o.dst v) σ →
        ∃ st' val', (∀ q, q ≤ rank fl k → st' q = st q) ∧ (∀ i, i < k → val' i = val i) ∧ (∀ p ∈ ob', ∀ q, rank fl k < q → q ≤ rank fl k + p.1 → q ≤ rank fl ops.size → p.2 (st' q)) ∧
          (∀ i o, k + 1 ≤ i → ops[i]? = some o → Good C nt ops fl val' st' env0 i o) ∧ K (envAt ops val' env0 ops.size) (st' (rank fl ops.size)) ∧ val' k = v := by
      intro v ob' hmv hob hw
      rw [if_neg (by simp [hmv])] at hrk
      simp only [Nat.add_zero] at hrk
      obtain ⟨st', val', h1, h2, h3, h4, h5⟩ := wpD_sound (K := K) (env0 := env0) hlen os fs' (k + 1) hist ob' (putA env o.dst v) σ
        st (fun i => if i < k then val i else v) hd2 hf2 (by rw [hrk]; exact hst)
        (by simp only [envAt, hdst, Nat.lt_irrefl, if_false]; rw [henv]; congr 1; exact (envAt_congr k fun i hi => by simp [hi]).symm)
        (by rw [hrk]; exact hh) (by omega) hw
      rw [hrk] at h1 h3
      exact ⟨st', val', h1, fun i hi => by rw [h2 i (by omega), if_pos hi], h3, h4, h5, by rw [h2 k (by omega), if_neg (by omega)]⟩
    cases hgo : goesA (guardA nt ops env o) with
    | true =>
      have h := hy hgo
      by_cases hmv : f.mv = true
      · rw [if_pos hmv] at h
        have hst1 : ∃ v σ1, OpStep C o (ev C nt env) σ v σ1 ∧ (isCall o.op = false → (aop C (ev C nt env) σ o.op).c ∧ v = (aop C (ev C nt env) σ o.op).v ∧ σ1 = (aop C (ev C nt env) σ o.op).s) ∧ oblOK σ1 ob ∧ wpD C nt K ((os.map (roOf ops)).zip fs') (σ :: hist) (oblDec ob) (putA env o.dst v) σ1 := by
          split at h
          · rename_i hcl
            obtain ⟨v, σ1, hs, hk⟩ := h
            exact ⟨v, σ1, hs o rfl, fun hn => absurd ((show isCall o.op = true from hcl).symm.trans hn) (by decide), hk⟩
          · obtain ⟨hc, hk⟩ := h
            exact ⟨_, _, opStep_of_snd aop_sound hc (aop_noDefer hc), fun _ => ⟨hc, rfl, rfl⟩, hk⟩
        obtain ⟨v, σ1, hstep, hao, hob, hw⟩ := hst1
        obtain ⟨st', val', h1, h2, h3, h4, h5, h6, h7⟩ := moved v σ1 hmv hob hw
        have hE : envAt ops val' env0 k = env := by rw [henv]; exact envAt_congr k h2
        refine ⟨st', val', h1, h2, h3, fun i o' hi ho' => ?_, h5⟩
        by_cases e : i = k
        · subst e
          rw [ho] at ho'; cases ho'
          exact ⟨by rw [hE]; exact hg, fun _ => by rw [if_pos (by rw [hfk]; exact hmv), hE, h6, h7, h1 _ (Nat.le_refl _), hst]; exact hstep, fun hn => by (rw [hE, hgo] at hn; cases hn), fun _ _ hic => by rw [hE, h1 _ (Nat.le_refl _), hst, h6, h7]; exact hao hic⟩
        · exact h4 i o' (by omega) ho'
      · have hmv : f.mv = false := by simpa using hmv
        rw [hmv] at h
        simp only [Bool.false_eq_true, if_false] at h
        by_cases hcall : isCall (roOf ops o).op = true
        · rw [if_pos hcall] at h
          obtain ⟨v, hq0, hb, hk⟩ := h
          have hp : ¬ pureOp (roOf ops o).op = true := by rw [call_notPure hcall]; decide
          obtain ⟨st', val', h1, h2, h3, h4, h5, h7⟩ := stilled _ _ hmv (fun p h => by split; exact h; exact List.mem_cons_of_mem _ h) hk
          have hE : envAt ops val' env0 k = env := by rw [henv]; exact envAt_congr k h2
          refine ⟨st', val', h1, h2, fun p hpm => h3 p (by split; exact hpm; exact List.mem_cons_of_mem _ hpm), fun i o' hi ho' => ?_, h5⟩
          by_cases e : i = k
          · subst e
            rw [ho] at ho'; cases ho'
            refine ⟨by rw [hE]; exact hg, fun _ => ?_, fun hn => by (rw [hE, hgo] at hn; cases hn), fun _ hm => by (rw [hfk, hmv] at hm; cases hm)⟩
            rw [if_neg (by rw [hfk, hmv]; decide), hE, h7]
            intro q hq
            have hsame : qcall C (ev C nt env) o.op v (st' q) := by
              rcases hq with hq | ⟨g1, g2, g3⟩
              · exact absurd hq hp
              rw [hfk] at g1 g2
              rcases Nat.lt_trichotomy q (rank fl i) with hlt | heq | hgt
              · have hm := hh q hlt
                rw [h1 q (by omega)]
                refine allS_at hb (List.mem_of_getElem? (i := rank fl i - 1 - q) ?_)
                rw [List.getElem?_take, if_pos (by omega)]; exact hm
              · subst heq; rw [h1 _ (Nat.le_refl _), hst]; exact hq0
              · have hfw : f.fw ≠ 0 := by omega
                exact h3 _ (by rw [if_neg hfw]; exact List.mem_cons_self) q hgt g2 g3
            exact hsame _ rfl
          · exact h4 i o' (by omega) ho'
        rw [if_neg hcall] at h
        obtain ⟨hic, hc, hs, hk⟩ := h
        have hop := hc
        have stepAt : ∀ σ0, (aop C (ev C nt env) σ0 o.op).c → OpStep C o (ev C nt env) σ0 (aop C (ev C nt env) σ0 o.op).v (aop C (ev C nt env) σ0 o.op).s := fun σ0 hc => opStep_of_snd aop_sound hc (aop_noDefer hc)
        by_cases hp : pureOp (roOf ops o).op = true
        · rw [if_pos hp] at hk
          obtain ⟨st', val', h1, h2, h3, h4, h5, h7⟩ := stilled _ ob hmv (fun _ h => h) hk
          have hE : envAt ops val' env0 k = env := by rw [henv]; exact envAt_congr k h2
          refine ⟨st', val', h1, h2, h3, fun i o' hi ho' => ?_, h5⟩
          by_cases e : i = k
          · subst e
            rw [ho] at ho'; cases ho'
            refine ⟨by rw [hE]; exact hg, fun _ => ?_, fun hn => by (rw [hE, hgo] at hn; cases hn), fun _ hm => by (rw [hfk, hmv] at hm; cases hm)⟩
            rw [if_neg (by rw [hfk, hmv]; decide), hE, h7]
            intro q _
            obtain ⟨_, e2⟩ := aop_pure (C := C) (ρ := ev C nt env) hp σ (st' q)
            have := stepAt (st' q) (by rw [show o.op = (roOf ops o).op from rfl, e2]; exact hc)
            rw [show o.op = (roOf ops o).op from rfl, e2] at this
            exact this
          · exact h4 i o' (by omega) ho'
        · rw [if_neg hp] at hk
          obtain ⟨hb, hk⟩ := hk
          obtain ⟨st', val', h1, h2, h3, h4, h5, h7⟩ := stilled _ _ hmv (fun p h => by split; exact h; exact List.mem_cons_of_mem _ h) hk
          have hE : envAt ops val' env0 k = env := by rw [henv]; exact envAt_congr k h2
          refine ⟨st', val', h1, h2, fun p hpm => h3 p (by split; exact hpm; exact List.mem_cons_of_mem _ hpm), fun i o' hi ho' => ?_, h5⟩
          by_cases e : i = k
          · subst e
            rw [ho] at ho'; cases ho'
            refine ⟨by rw [hE]; exact hg, fun _ => ?_, fun hn => by (rw [hE, hgo] at hn; cases hn), fun _ hm => by (rw [hfk, hmv] at hm; cases hm)⟩
            rw [if_neg (by rw [hfk, hmv]; decide), hE, h7]
            intro q hq
            have hsame : sameR (aop C (ev C nt env) σ o.op).v (st' q) (aop C (ev C nt env) (st' q) o.op) := by
              rcases hq with hq | ⟨g1, g2, g3⟩
              · exact absurd hq hp
              rw [hfk] at g1 g2
              rcases Nat.lt_trichotomy q (rank fl i) with hlt | heq | hgt
              · have hm := hh q hlt
                rw [h1 q (by omega)]
                refine allS_at hb (List.mem_of_getElem? (i := rank fl i - 1 - q) ?_)
                rw [List.getElem?_take, if_pos (by omega)]; exact hm
              · subst heq; rw [h1 _ (Nat.le_refl _), hst]; exact ⟨hc, rfl, hs⟩
              · have hfw : f.fw ≠ 0 := by omega
                exact h3 _ (by rw [if_neg hfw]; exact List.mem_cons_self) q hgt g2 g3
            obtain ⟨e1, e2, e3⟩ := hsame
            have := stepAt (st' q) e1
            rw [e2, e3] at this
            exact this
          · exact h4 i o' (by omega) ho'
    | false =>
      have h := hn hgo
      by_cases hmv : f.mv = true
      · rw [if_pos hmv] at h
        obtain ⟨st', val', h1, h2, h3, h4, h5, h6, h7⟩ := moved .skp σ hmv h.1 h.2
        have hE : envAt ops val' env0 k = env := by rw [henv]; exact envAt_congr k h2
        refine ⟨st', val', h1, h2, h3, fun i o' hi ho' => ?_, h5⟩
        by_cases e : i = k
        · subst e
          rw [ho] at ho'; cases ho'
          exact ⟨by rw [hE]; exact hg, fun hy => by (rw [hE, hgo] at hy; cases hy), fun _ => ⟨h7, fun _ => by rw [h6, h1 _ (Nat.le_refl _), hst]⟩, fun hy => by (rw [hE, hgo] at hy; cases hy)⟩
        · exact h4 i o' (by omega) ho'
      · have hmv : f.mv = false := by simpa using hmv
        rw [hmv] at h
        simp only [Bool.false_eq_true, if_false] at h
        obtain ⟨st', val', h1, h2, h3, h4, h5, h7⟩ := stilled .skp ob hmv (fun _ h => h) h
        have hE : envAt ops val' env0 k = env := by rw [henv]; exact envAt_congr k h2
        refine ⟨st', val', h1, h2, h3, fun i o' hi ho' => ?_, h5⟩
        by_cases e : i = k
        · subst e
          rw [ho] at ho'; cases ho'
          exact ⟨by rw [hE]; exact hg, fun hy => by (rw [hE, hgo] at hy; cases hy), fun _ => ⟨h7, fun hm => by (rw [hfk, hmv] at hm; cases hm)⟩, fun hy => by (rw [hE, hgo] at hy; cases hy)⟩
        · exact h4 i o' (by omega) ho'

theorem codeS_draw {ro : Option Nat} {id : Nat} {B : List Nat} {val : Nat → AV} {st : Nat → Sto} {env : Env} (hm : C.P.follows .mixedOrders = true) (h : chk ops fl B = true) (hlen : fl.length = ops.size)
    (good : ∀ i o, ops[i]? = some o → Good C nt ops fl val st env i o) : CodeS C ro nt (.region id ops true) env (st 0) .normal (envAt ops val env ops.size) (st (rank fl ops.size)) := by
  intro w0 G a w hrel cr hcr
  have hi' : Inv C.gl w0 G (st 0) { w with drawn := w.drawn + 1 } := hrel.inv.heap rfl rfl rfl rfl
  refine wpIn_region_any hm ?_
  refine anyD (ws := w) (G0 := G) (σ0 := st 0) (df := a.defers) h hlen good (fun G' a' w' h1 h2 h3 => ⟨rfl, G', [], h1, h2, by simpa using h3, Marks.nil⟩) ops.size _ env 0 G a _ ?_ ?_ ⟨hi', hrel.env⟩ (.heap G _ rfl) rfl
  · have := List.countP_le_length (p := fun i => !(Array.replicate ops.size false).getD i false) (l := List.range ops.size)
    simpa using this
  · exact {
      size := by simp
      cl := fun j i hj hi hL => by simp [Array.getD_eq_getD_getElem?, hj] at hL
      mv := fun i hi hmv => by simp [Array.getD_eq_getD_getElem?, hi]
      le := Nat.zero_le _
      env := fun t => ⟨fun i hi hL => by simp [Array.getD_eq_getD_getElem?, hi] at hL, fun _ => rfl⟩ }

theorem WK.draw {ro : Option Nat} {Q : Exit → Env → Sto → Prop} {env : Env} {σ : Sto} {id : Nat} (fl : List DF) (hm : C.P.follows .mixedOrders = true) (h : chk ops fl (Region.before ops).toList = true)
    (hw : wpD C nt (fun env σ => Q .normal env σ) ((ops.toList.map (roOf ops)).zip fl) [] [] env σ) : WK C ro nt (.oth (.region id ops true)) Q env σ := by
  intro c hc
  have hc' : c = .region id ops true := by
    cases c with
    | region id' ops' d => cases d with
      | false => cases hc
      | true => simp only [toK, K.oth.injEq] at hc; exact hc
    | goto l => simp only [toK, K.oth.injEq] at hc; exact hc
    | _ => first | (cases hc; done) | (simp only [toK, K.oth.injEq] at hc; exact hc)
  subst hc'
  have hlen : fl.length = ops.size := by
    simp only [chk, Bool.and_eq_true, beq_iff_eq] at h; exact h.1
  obtain ⟨st', val', h1, h2, _, h4, h5⟩ := wpD_sound (C := C) (nt := nt) (K := fun env σ => Q .normal env σ) (env0 := env) hlen ops.toList fl 0 [] [] env σ (fun _ => σ) (fun _ => .undef) rfl rfl rfl rfl (fun q hq => by simp [rank] at hq) (Nat.zero_le _) hw
  have hs0 : st' 0 = σ := h1 0 (Nat.zero_le _)
  have := codeS_draw (ro := ro) (id := id) (env := env) hm h hlen (fun i o ho => h4 i o (Nat.zero_le _) ho)
  rw [hs0] at this
  exact ⟨_, _, _, this, h5⟩
end

/-- Operations that leave the store. -/
def stillOp : Op → Bool
  | .load .. | .indexAddr .. | .index .. | .convert .. | .slice .. | .lookup .. => true
  | .call ⟨.builtin .len, _, _⟩ | .call ⟨.builtin .max, _, _⟩ | .call ⟨.builtin .min, _, _⟩ => true
  | op => pureOp op

theorem lenA_s {C : Cx} {σ : Sto} {t : TypeId} {x : AV} : (lenA C σ t x).s = σ := by unfold lenA; split <;> first | rfl | (split <;> rfl) | (split <;> split <;> rfl)
theorem mxA_s {σ : Sto} {x y : AV} : (mxA σ x y).s = σ := by unfold mxA; split <;> rfl
theorem mnA_s {σ : Sto} {x y : AV} : (mnA σ x y).s = σ := by unfold mnA; split <;> rfl

theorem aop_still {C : Cx} {ρ : Operand → AV} {op : Op} {σ : Sto} (h : stillOp op = true) : (aop C ρ σ op).s = σ := by
  by_cases hp : pureOp op = true
  · exact (aop_pure hp σ σ).1
  · cases op <;> first | exact absurd h hp | skip
    case load t x => simp only [aop, loadA, bad]; repeat (first | rfl | split)
    case indexAddr t x ix => simp only [aop, idxA, bad]; repeat (first | rfl | split)
    case index t x ix => simp only [aop, ixvA, bad]; repeat (first | rfl | split)
    case convert t x ix => simp only [aop, cnvA, bad]; repeat (first | rfl | split)
    case slice t x lo hi mx => simp only [aop, slcA, bad]; repeat (first | rfl | split)
    case lookup t x k ok => simp only [aop, lkpA, bad]; repeat (first | rfl | split)
    case call c =>
      obtain ⟨f, as, ts⟩ := c
      cases f with
      | builtin b =>
        simp only [aop]
        unfold bltA
        split
        · exact lenA_s
        · exact mxA_s
        · exact mnA_s
        · exact absurd h (by intro h; cases h)
        · rfl
      | _ => exact absurd h hp

theorem wpD_still {C : Cx} {nt : Nat} {K : Env → Sto → Prop} : ∀ (rs : List RO) (env : Env) (σ : Sto), rs.all (fun r => stillOp r.op && !isCall r.op) = true → wpr C nt rs K env σ → wpD C nt K (rs.map fun r => (r, ⟨false, 0, 0⟩)) [] [] env σ
  | [], env, σ, _, h => h
  | r :: rs, env, σ, hs, h => by
    simp only [List.all_cons, Bool.and_eq_true, Bool.not_eq_true'] at hs
    obtain ⟨⟨h1, h2⟩, h3⟩ := hs
    have h3 : rs.all (fun r => stillOp r.op && !isCall r.op) = true := h3
    have key : ∀ yes no yes' no', (yes → yes') → (no → no') → gdR C nt r.gd env yes no → gdR C nt r.gd env yes' no' := by
      intro yes no yes' no' hy hn hg
      unfold gdR at hg ⊢
      split
      · rename_i e; rw [e] at hg; exact hy hg
      · rename_i x w e
        rw [e] at hg
        refine ⟨hg.1, ?_⟩
        have hg := hg.2
        by_cases hb : ((ev C nt env x).goes w) = true
        · rw [if_pos hb] at hg ⊢; exact hy hg
        · rw [if_neg hb] at hg ⊢; exact hn hg
    simp only [wpr, h2, Bool.false_eq_true, if_false] at h
    simp only [List.map_cons, wpD, Bool.false_eq_true, if_false, h2, true_and, List.take_nil, if_true, allS]
    refine key _ _ _ _ (fun hy => ?_) (fun hn => wpD_still rs _ _ h3 hn) h
    obtain ⟨hc, hk⟩ := hy
    have hst := aop_still (C := C) (ρ := ev C nt env) (σ := σ) h1
    rw [hst] at hk
    refine ⟨hc, hst, ?_⟩
    split
    · exact wpD_still rs _ _ h3 hk
    · exact wpD_still rs _ _ h3 hk

/-- Where nothing changes the store: as if in order. -/
theorem WK.draw0 {C : Cx} {nt : Nat} {ro : Option Nat} {Q : Exit → Env → Sto → Prop} {env : Env} {σ : Sto} {id : Nat} {ops : Array Oper} (hm : C.P.follows .mixedOrders = true)
    (h : (ops.toList.all (fun o => stillOp o.op && !isCall o.op) && chk ops (ops.toList.map fun _ => ⟨false, 0, 0⟩) (Region.before ops).toList) = true)
    (hw : wpr C nt (ops.toList.map (roOf ops)) (fun env σ => Q .normal env σ) env σ) : WK C ro nt (.oth (.region id ops true)) Q env σ := by
  simp only [Bool.and_eq_true] at h
  refine WK.draw _ hm h.2 ?_
  have e : (ops.toList.map (roOf ops)).zip (ops.toList.map fun _ => (⟨false, 0, 0⟩ : DF)) = (ops.toList.map (roOf ops)).map fun r => (r, ⟨false, 0, 0⟩) := by
    generalize ops.toList = l
    induction l with
    | nil => rfl
    | cons x l ih => simp only [List.map_cons, List.zip_cons_cons, ih]
  rw [e]
  refine wpD_still _ _ _ ?_ hw
  rw [List.all_map]
  exact h.1

/-! ### How it is reckoned -/
section
variable {C : Cx} {nt : Nat} {K : Env → Sto → Prop} {d : Option Nat} {op : Op} {bk fw : Nat} {rs : List (RO × DF)} {hist : List Sto} {ob : Obl} {env : Env} {σ : Sto}
theorem wpD_nil : wpD C nt K [] hist ob env σ = K env σ := (rfl)
/-- A call in such a region, what is behind it kept closed. -/
def callD (C : Cx) (nt : Nat) (d : Option Nat) (cl : Call) (rs : List (RO × DF)) (hist : List Sto) (ob : Obl) (K : Env → Sto → Prop) (env : Env) (σ : Sto) : Prop :=
  callR C (ev C nt env) σ (.call cl) (fun v σ1 => oblOK σ1 ob ∧ wpD C nt K rs (σ :: hist) (oblDec ob) (putA env d v) σ1)
/-- What is behind a moving operation. -/
def movedD (C : Cx) (nt : Nat) (d : Option Nat) (r : AR) (rs : List (RO × DF)) (hist : List Sto) (ob : Obl) (K : Env → Sto → Prop) (env : Env) (σ : Sto) : Prop :=
  moveR r fun v σ1 => oblOK σ1 ob ∧ wpD C nt K rs (σ :: hist) (oblDec ob) (putA env d v) σ1
theorem movedD_eq {c : Prop} {v : AV} {s : Sto} : movedD C nt d ⟨c, v, s⟩ rs hist ob K env σ = (c ∧ oblOK s ob ∧ wpD C nt K rs (σ :: hist) (oblDec ob) (putA env d v) s) := (rfl)
/-- What is behind a pure operation. -/
def pureD (C : Cx) (nt : Nat) (d : Option Nat) (r : AR) (rs : List (RO × DF)) (hist : List Sto) (ob : Obl) (K : Env → Sto → Prop) (env : Env) (σ : Sto) : Prop :=
  r.c ∧ wpD C nt K rs hist ob (putA env d r.v) σ
theorem pureD_eq {c : Prop} {v : AV} {s : Sto} : pureD C nt d ⟨c, v, s⟩ rs hist ob K env σ = (c ∧ wpD C nt K rs hist ob (putA env d v) σ) := (rfl)
/-- What is behind an operation that looks at the store. -/
def readD (C : Cx) (nt : Nat) (d : Option Nat) (op : Op) (bk fw : Nat) (r : AR) (rs : List (RO × DF)) (hist : List Sto) (ob : Obl) (K : Env → Sto → Prop) (env : Env) (σ : Sto) : Prop :=
  r.c ∧ r.s = σ ∧ allS (fun σ0 => sameR r.v σ0 (aop C (ev C nt env) σ0 op)) (hist.take bk) ∧ wpD C nt K rs hist (if fw = 0 then ob else (fw, fun σ0 => sameR r.v σ0 (aop C (ev C nt env) σ0 op)) :: ob) (putA env d r.v) σ
theorem readD_eq {c : Prop} {v : AV} {s : Sto} : readD C nt d op bk fw ⟨c, v, s⟩ rs hist ob K env σ = (c ∧ s = σ ∧ allS (fun σ0 => sameR v σ0 (aop C (ev C nt env) σ0 op)) (hist.take bk) ∧ wpD C nt K rs hist (if fw = 0 then ob else (fw, fun σ0 => sameR v σ0 (aop C (ev C nt env) σ0 op)) :: ob) (putA env d v) σ) := (rfl)
theorem sameR_eq {v v' : AV} {σ s : Sto} {c : Prop} : sameR v σ ⟨c, v', s⟩ = (c ∧ v' = v ∧ s = σ) := (rfl)

/-- A guarded operation in such a region, what is behind it kept closed. -/
def gdD (C : Cx) (nt : Nat) (g : AV) (want : Bool) (d : Option Nat) (op : Op) (f : DF) (rs : List (RO × DF)) (hist : List Sto) (ob : Obl) (K : Env → Sto → Prop) (env : Env) (σ : Sto) : Prop :=
  g.isGd = true ∧ if (g.goes want) = true then wpD C nt K ((⟨d, op, none⟩, f) :: rs) hist ob env σ
    else (if f.mv = true then oblOK σ ob ∧ wpD C nt K rs (σ :: hist) (oblDec ob) (putA env d .skp) σ else wpD C nt K rs hist ob (putA env d .skp) σ)
theorem wpD_gd {x : Operand} {w : Bool} {f : DF} : wpD C nt K ((⟨d, op, some (x, w)⟩, f) :: rs) hist ob env σ = gdD C nt (ev C nt env x) w d op f rs hist ob K env σ := (rfl)
theorem gdD_tt {f : DF} : gdD C nt (.bool true) true d op f rs hist ob K env σ = wpD C nt K ((⟨d, op, none⟩, f) :: rs) hist ob env σ := by simp [gdD, AV.isGd, AV.goes]
theorem gdD_ff {f : DF} : gdD C nt (.bool false) false d op f rs hist ob K env σ = wpD C nt K ((⟨d, op, none⟩, f) :: rs) hist ob env σ := by simp [gdD, AV.isGd, AV.goes]
theorem gdD_tf {bk fw : Nat} : gdD C nt (.bool true) false d op ⟨false, bk, fw⟩ rs hist ob K env σ = wpD C nt K rs hist ob (putA env d .skp) σ := by simp [gdD, AV.isGd, AV.goes]
theorem gdD_ft {bk fw : Nat} : gdD C nt (.bool false) true d op ⟨false, bk, fw⟩ rs hist ob K env σ = wpD C nt K rs hist ob (putA env d .skp) σ := by simp [gdD, AV.isGd, AV.goes]
theorem gdD_tfm {bk fw : Nat} : gdD C nt (.bool true) false d op ⟨true, bk, fw⟩ rs hist ob K env σ = (oblOK σ ob ∧ wpD C nt K rs (σ :: hist) (oblDec ob) (putA env d .skp) σ) := by simp [gdD, AV.isGd, AV.goes]
theorem gdD_ftm {bk fw : Nat} : gdD C nt (.bool false) true d op ⟨true, bk, fw⟩ rs hist ob K env σ = (oblOK σ ob ∧ wpD C nt K rs (σ :: hist) (oblDec ob) (putA env d .skp) σ) := by simp [gdD, AV.isGd, AV.goes]

theorem gdD_skp {bk fw : Nat} {w : Bool} : gdD C nt (.tup []) w d op ⟨false, bk, fw⟩ rs hist ob K env σ = wpD C nt K rs hist ob (putA env d .skp) σ := by simp [gdD, AV.isGd, AV.goes]
theorem gdD_skpm {bk fw : Nat} {w : Bool} : gdD C nt (.tup []) w d op ⟨true, bk, fw⟩ rs hist ob K env σ = (oblOK σ ob ∧ wpD C nt K rs (σ :: hist) (oblDec ob) (putA env d .skp) σ) := by simp [gdD, AV.isGd, AV.goes]
theorem gdD_split {f : DF} {w : Bool} (b : Bool) (ht : b = w → wpD C nt K ((⟨d, op, none⟩, f) :: rs) hist ob env σ)
    (hf : b = (!w) → if f.mv = true then oblOK σ ob ∧ wpD C nt K rs (σ :: hist) (oblDec ob) (putA env d .skp) σ else wpD C nt K rs hist ob (putA env d .skp) σ) : gdD C nt (.bool b) w d op f rs hist ob K env σ := by
  refine ⟨rfl, ?_⟩
  simp only [AV.goes]
  cases b <;> cases w <;> simp_all

theorem wpD_call {f : Operand} {as : Array Operand} {ts : Array TypeId} : wpD C nt K ((⟨d, .call ⟨.value f, as, ts⟩, none⟩, ⟨true, bk, fw⟩) :: rs) hist ob env σ = callD C nt d ⟨.value f, as, ts⟩ rs hist ob K env σ := (rfl)
/-- What is behind a quiet call. -/
def qcallD (C : Cx) (nt : Nat) (d : Option Nat) (cl : Call) (bk fw : Nat) (rs : List (RO × DF)) (hist : List Sto) (ob : Obl) (K : Env → Sto → Prop) (env : Env) (σ : Sto) : Prop :=
  ∃ v, qcall C (ev C nt env) (.call cl) v σ ∧ allS (qcall C (ev C nt env) (.call cl) v) (hist.take bk) ∧ wpD C nt K rs hist (if fw = 0 then ob else (fw, qcall C (ev C nt env) (.call cl) v) :: ob) (putA env d v) σ
theorem wpD_qcall {f : Operand} {as : Array Operand} {ts : Array TypeId} : wpD C nt K ((⟨d, .call ⟨.value f, as, ts⟩, none⟩, ⟨false, bk, fw⟩) :: rs) hist ob env σ = qcallD C nt d ⟨.value f, as, ts⟩ bk fw rs hist ob K env σ := by
  simp only [wpD, gdR, isCall, if_true, Bool.false_eq_true, if_false, qcallD]
theorem wpD_mv (h : isCall op = false) : wpD C nt K ((⟨d, op, none⟩, ⟨true, bk, fw⟩) :: rs) hist ob env σ = movedD C nt d (aop C (ev C nt env) σ op) rs hist ob K env σ := by
  simp only [wpD, gdR, h, if_true, Bool.false_eq_true, if_false]; rfl
theorem wpD_pure (h : isCall op = false) (hp : pureOp op = true) : wpD C nt K ((⟨d, op, none⟩, ⟨false, bk, fw⟩) :: rs) hist ob env σ = pureD C nt d (aop C (ev C nt env) σ op) rs hist ob K env σ := by
  simp only [wpD, gdR, h, hp, if_true, Bool.false_eq_true, if_false, true_and, stillR, pureD]
  exact propext ⟨fun h => ⟨h.1, h.2.2⟩, fun h => ⟨h.1, (aop_pure hp σ σ).1, h.2⟩⟩
theorem wpD_read (h : isCall op = false) (hp : pureOp op = false) : wpD C nt K ((⟨d, op, none⟩, ⟨false, bk, fw⟩) :: rs) hist ob env σ = readD C nt d op bk fw (aop C (ev C nt env) σ op) rs hist ob K env σ := by
  simp only [wpD, gdR, h, hp, Bool.false_eq_true, if_false, true_and, stillR, readD]
theorem wpD_pmove (x : Operand) : wpD C nt K ((⟨d, .move x, none⟩, ⟨false, bk, fw⟩) :: rs) hist ob env σ = pureD C nt d (aop C (ev C nt env) σ (.move x)) rs hist ob K env σ := wpD_pure rfl rfl
theorem wpD_passign (x : Operand) : wpD C nt K ((⟨d, .assign x, none⟩, ⟨false, bk, fw⟩) :: rs) hist ob env σ = pureD C nt d (aop C (ev C nt env) σ (.assign x)) rs hist ob K env σ := wpD_pure rfl rfl
theorem wpD_ppick (c x y : Operand) : wpD C nt K ((⟨d, .pick c x y, none⟩, ⟨false, bk, fw⟩) :: rs) hist ob env σ = pureD C nt d (aop C (ev C nt env) σ (.pick c x y)) rs hist ob K env σ := wpD_pure rfl rfl
theorem wpD_pfieldAddr (t : TypeId) (x : Operand) (f : Nat) : wpD C nt K ((⟨d, .fieldAddr t x f, none⟩, ⟨false, bk, fw⟩) :: rs) hist ob env σ = pureD C nt d (aop C (ev C nt env) σ (.fieldAddr t x f)) rs hist ob K env σ := wpD_pure rfl rfl
theorem wpD_pfield (t : TypeId) (x : Operand) (f : Nat) : wpD C nt K ((⟨d, .field t x f, none⟩, ⟨false, bk, fw⟩) :: rs) hist ob env σ = pureD C nt d (aop C (ev C nt env) σ (.field t x f)) rs hist ob K env σ := wpD_pure rfl rfl
theorem wpD_pextract (x : Operand) (k : Nat) : wpD C nt K ((⟨d, .extract x k, none⟩, ⟨false, bk, fw⟩) :: rs) hist ob env σ = pureD C nt d (aop C (ev C nt env) σ (.extract x k)) rs hist ob K env σ := wpD_pure rfl rfl
theorem wpD_pbinOp (op : BinOp) (t : TypeId) (x y : Operand) (t' : TypeId) : wpD C nt K ((⟨d, .binOp op t x y t', none⟩, ⟨false, bk, fw⟩) :: rs) hist ob env σ = pureD C nt d (aop C (ev C nt env) σ (.binOp op t x y t')) rs hist ob K env σ := wpD_pure rfl rfl
theorem wpD_punOp (op : UnOp) (t : TypeId) (x : Operand) : wpD C nt K ((⟨d, .unOp op t x, none⟩, ⟨false, bk, fw⟩) :: rs) hist ob env σ = pureD C nt d (aop C (ev C nt env) σ (.unOp op t x)) rs hist ob K env σ := wpD_pure rfl rfl
theorem wpD_pnilCheck (x : Operand) : wpD C nt K ((⟨d, .nilCheck x, none⟩, ⟨false, bk, fw⟩) :: rs) hist ob env σ = pureD C nt d (aop C (ev C nt env) σ (.nilCheck x)) rs hist ob K env σ := wpD_pure rfl rfl
theorem wpD_pmakeFunc (f : Fn) (first cap : Array Operand) : wpD C nt K ((⟨d, .makeFunc f first cap, none⟩, ⟨false, bk, fw⟩) :: rs) hist ob env σ = pureD C nt d (aop C (ev C nt env) σ (.makeFunc f first cap)) rs hist ob K env σ := wpD_pure rfl rfl
theorem wpD_pmakeInterface (t : TypeId) (x : Operand) : wpD C nt K ((⟨d, .makeInterface t x, none⟩, ⟨false, bk, fw⟩) :: rs) hist ob env σ = pureD C nt d (aop C (ev C nt env) σ (.makeInterface t x)) rs hist ob K env σ := wpD_pure rfl rfl
theorem wpD_pbuild (t : TypeId) (ps : Array (Nat × Operand)) : wpD C nt K ((⟨d, .build t ps, none⟩, ⟨false, bk, fw⟩) :: rs) hist ob env σ = pureD C nt d (aop C (ev C nt env) σ (.build t ps)) rs hist ob K env σ := wpD_pure rfl rfl
theorem wpD_pbuildSlice (t : TypeId) (n : Nat) (ps : Array (Nat × Operand)) : wpD C nt K ((⟨d, .buildSlice t n ps, none⟩, ⟨false, bk, fw⟩) :: rs) hist ob env σ = pureD C nt d (aop C (ev C nt env) σ (.buildSlice t n ps)) rs hist ob K env σ := wpD_pure rfl rfl
theorem wpD_rload (t : TypeId) (x : Operand) : wpD C nt K ((⟨d, .load t x, none⟩, ⟨false, bk, fw⟩) :: rs) hist ob env σ = readD C nt d (.load t x) bk fw (aop C (ev C nt env) σ (.load t x)) rs hist ob K env σ := wpD_read rfl rfl
theorem wpD_rindexAddr (t : TypeId) (x ix : Operand) : wpD C nt K ((⟨d, .indexAddr t x ix, none⟩, ⟨false, bk, fw⟩) :: rs) hist ob env σ = readD C nt d (.indexAddr t x ix) bk fw (aop C (ev C nt env) σ (.indexAddr t x ix)) rs hist ob K env σ := wpD_read rfl rfl
theorem wpD_rindex (t : TypeId) (x ix : Operand) : wpD C nt K ((⟨d, .index t x ix, none⟩, ⟨false, bk, fw⟩) :: rs) hist ob env σ = readD C nt d (.index t x ix) bk fw (aop C (ev C nt env) σ (.index t x ix)) rs hist ob K env σ := wpD_read rfl rfl
theorem wpD_rconvert (s' d' : TypeId) (x : Operand) : wpD C nt K ((⟨d, .convert s' d' x, none⟩, ⟨false, bk, fw⟩) :: rs) hist ob env σ = readD C nt d (.convert s' d' x) bk fw (aop C (ev C nt env) σ (.convert s' d' x)) rs hist ob K env σ := wpD_read rfl rfl
theorem wpD_rslice (t : TypeId) (x : Operand) (lo hi : Option Operand) : wpD C nt K ((⟨d, .slice t x lo hi none, none⟩, ⟨false, bk, fw⟩) :: rs) hist ob env σ = readD C nt d (.slice t x lo hi none) bk fw (aop C (ev C nt env) σ (.slice t x lo hi none)) rs hist ob K env σ := wpD_read rfl rfl
theorem wpD_rlookup (t : TypeId) (x k : Operand) (ok : Bool) : wpD C nt K ((⟨d, .lookup t x k ok, none⟩, ⟨false, bk, fw⟩) :: rs) hist ob env σ = readD C nt d (.lookup t x k ok) bk fw (aop C (ev C nt env) σ (.lookup t x k ok)) rs hist ob K env σ := wpD_read rfl rfl
theorem wpD_mmakeMap (t : TypeId) (r : Option Operand) : wpD C nt K ((⟨d, .makeMap t r, none⟩, ⟨true, bk, fw⟩) :: rs) hist ob env σ = movedD C nt d (aop C (ev C nt env) σ (.makeMap t r)) rs hist ob K env σ := wpD_mv rfl
theorem wpD_mmapUpdate (t : TypeId) (x k y : Operand) : wpD C nt K ((⟨d, .mapUpdate t x k y, none⟩, ⟨true, bk, fw⟩) :: rs) hist ob env σ = movedD C nt d (aop C (ev C nt env) σ (.mapUpdate t x k y)) rs hist ob K env σ := wpD_mv rfl
theorem wpD_minsert (t : TypeId) (x k y : Operand) : wpD C nt K ((⟨d, .insert t x k y, none⟩, ⟨true, bk, fw⟩) :: rs) hist ob env σ = movedD C nt d (aop C (ev C nt env) σ (.insert t x k y)) rs hist ob K env σ := wpD_mv rfl
theorem wpD_rcall_len (as : Array Operand) (ts : Array TypeId) : wpD C nt K ((⟨d, .call ⟨.builtin .len, as, ts⟩, none⟩, ⟨false, bk, fw⟩) :: rs) hist ob env σ = readD C nt d (.call ⟨.builtin .len, as, ts⟩) bk fw (aop C (ev C nt env) σ (.call ⟨.builtin .len, as, ts⟩)) rs hist ob K env σ := wpD_read rfl rfl
theorem wpD_rcall_max (as : Array Operand) (ts : Array TypeId) : wpD C nt K ((⟨d, .call ⟨.builtin .max, as, ts⟩, none⟩, ⟨false, bk, fw⟩) :: rs) hist ob env σ = readD C nt d (.call ⟨.builtin .max, as, ts⟩) bk fw (aop C (ev C nt env) σ (.call ⟨.builtin .max, as, ts⟩)) rs hist ob K env σ := wpD_read rfl rfl
theorem wpD_rcall_min (as : Array Operand) (ts : Array TypeId) : wpD C nt K ((⟨d, .call ⟨.builtin .min, as, ts⟩, none⟩, ⟨false, bk, fw⟩) :: rs) hist ob env σ = readD C nt d (.call ⟨.builtin .min, as, ts⟩) bk fw (aop C (ev C nt env) σ (.call ⟨.builtin .min, as, ts⟩)) rs hist ob K env σ := wpD_read rfl rfl
theorem wpD_rcall_cap (as : Array Operand) (ts : Array TypeId) : wpD C nt K ((⟨d, .call ⟨.builtin .cap, as, ts⟩, none⟩, ⟨false, bk, fw⟩) :: rs) hist ob env σ = readD C nt d (.call ⟨.builtin .cap, as, ts⟩) bk fw (aop C (ev C nt env) σ (.call ⟨.builtin .cap, as, ts⟩)) rs hist ob K env σ := wpD_read rfl rfl
theorem wpD_malloc (t : TypeId) : wpD C nt K ((⟨d, .alloc t, none⟩, ⟨true, bk, fw⟩) :: rs) hist ob env σ = movedD C nt d (aop C (ev C nt env) σ (.alloc t)) rs hist ob K env σ := wpD_mv rfl
theorem wpD_mbox (t : TypeId) (x : Operand) : wpD C nt K ((⟨d, .box t x, none⟩, ⟨true, bk, fw⟩) :: rs) hist ob env σ = movedD C nt d (aop C (ev C nt env) σ (.box t x)) rs hist ob K env σ := wpD_mv rfl
theorem wpD_mstore (t : TypeId) (x y : Operand) : wpD C nt K ((⟨d, .store t x y, none⟩, ⟨true, bk, fw⟩) :: rs) hist ob env σ = movedD C nt d (aop C (ev C nt env) σ (.store t x y)) rs hist ob K env σ := wpD_mv rfl
theorem wpD_mmakeSlice (t : TypeId) (x y : Operand) : wpD C nt K ((⟨d, .makeSlice t x y, none⟩, ⟨true, bk, fw⟩) :: rs) hist ob env σ = movedD C nt d (aop C (ev C nt env) σ (.makeSlice t x y)) rs hist ob K env σ := wpD_mv rfl
/-- An append, what is behind it kept closed. -/
def appD (C : Cx) (nt : Nat) (d : Option Nat) (as : Array Operand) (ts : Array TypeId) (rs : List (RO × DF)) (hist : List Sto) (ob : Obl) (K : Env → Sto → Prop) (env : Env) (σ : Sto) : Prop :=
  callR C (ev C nt env) σ (.call ⟨.builtin .append, as, ts⟩) (fun v σ1 => oblOK σ1 ob ∧ wpD C nt K rs (σ :: hist) (oblDec ob) (putA env d v) σ1)
theorem wpD_mapp {bk fw : Nat} (as : Array Operand) (ts : Array TypeId) : wpD C nt K ((⟨d, .call ⟨.builtin .append, as, ts⟩, none⟩, ⟨true, bk, fw⟩) :: rs) hist ob env σ = appD C nt d as ts rs hist ob K env σ := (rfl)
end

attribute [go_sem] wpD_qcall wpD_rlookup wpD_mmakeMap wpD_mmapUpdate wpD_minsert
attribute [go_sem] aop movedD_eq pureD_eq readD_eq sameR_eq wpD_nil wpD_call wpD_gd gdD_tt gdD_ff gdD_tf gdD_ft gdD_tfm gdD_ftm gdD_skp gdD_skpm oblOK oblDec allS wpD_pmove wpD_passign wpD_ppick wpD_pfieldAddr wpD_pfield wpD_pextract wpD_pbinOp wpD_punOp wpD_pnilCheck wpD_pmakeFunc wpD_pmakeInterface wpD_pbuild wpD_pbuildSlice wpD_rload wpD_rindexAddr wpD_rindex wpD_rconvert wpD_rslice wpD_rcall_len wpD_rcall_max wpD_rcall_min wpD_rcall_cap wpD_malloc wpD_mbox wpD_mstore wpD_mmakeSlice wpD_mapp
attribute [go_sem] List.zip_cons_cons List.zip_nil_right List.zip_nil_left
end Go.Lg
