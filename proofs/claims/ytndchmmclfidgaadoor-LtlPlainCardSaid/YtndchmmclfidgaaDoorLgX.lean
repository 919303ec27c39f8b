/- Lg, part X: regions that draw their order, in which allocations float: a block that was made early is kept aside and taken in when its turn has come. -/
import Derived.Test.YtndchmmclfidgaaDoorLgV
set_option linter.unusedVariables false
set_option linter.unusedSimpArgs false
namespace Go.Lg
open Go.RowKit

/-- A block kept aside is taken in. -/
theorem Inv.adopt {gl : Nat → List AV} {w0 w : World} {G : Gh} {σ : Sto} (h : Inv gl w0 G σ w) {b : Nat} {vs : Array Value} {ty : TypeId} {cells : List AV} (hb0 : w0.heap.size ≤ b) (hb : w.heap[b]? = some (.cells vs ty (0, 0)))
    (hI : ∀ k, G.I b k = none) (hn : ¬ Own G σ b) (hsz : vs.size = cells.length) (hc : ∀ (i : Nat) (c : AV), cells[i]? = some c → ∃ v : Value, vs[i]? = some v ∧ Rep G c v) :
    Inv gl w0 (G.new σ.next ⟨b, 0, cells.length, 0⟩) (σ.add (.box cells)) w := by
  have hle := Gh.le_new (G := G) (id := σ.next) ⟨b, 0, cells.length, 0⟩ (h.fresh _ (Nat.le_refl _))
  exact {
    below := h.below
    imm := h.imm
    gl := fun g k c hc => (h.gl g k c hc).imp fun v hv => ⟨hv.1, hv.2.mono hle⟩
    live := fun i o' hi => by
      simp only [Sto.get_add, Sto.next_add] at hi ⊢
      split at hi
      · omega
      · exact Nat.lt_succ_of_lt (h.live i o' hi)
    obj := fun i o' B' h1 h2 => by
      simp only [Gh.new, Sto.get_add] at h1 h2
      by_cases e : i = σ.next
      · rw [if_pos e] at h1 h2
        cases h1; cases h2
        exact ⟨hb0, vs, ty, hb, hsz, fun j c hj => by
          obtain ⟨v, hv, hr⟩ := hc j c hj
          exact ⟨v, hv, hr.mono hle⟩, fun k => hI k⟩
      · rw [if_neg e] at h1 h2
        exact ⟨(h.obj i o' B' h1 h2).1, (h.obj i o' B' h1 h2).2.keep hle rfl fun _ => rfl⟩
    fresh := fun i hi => by
      simp only [Gh.new, Sto.next_add] at hi ⊢
      rw [if_neg (by omega)]; exact h.fresh i (by omega)
    inj := fun i i' o1 o2 B1 B2 h1 h2 h3 h4 hbb => by
      simp only [Gh.new, Sto.get_add] at h1 h2 h3 h4
      by_cases e : i = σ.next <;> by_cases e' : i' = σ.next
      · rw [e, e']
      · rw [if_pos e] at h3
        rw [if_neg e'] at h2 h4
        cases h3
        exact absurd (.inl ⟨i', o2, B2, h2, h4, hbb.symm⟩) hn
      · rw [if_pos e'] at h4
        rw [if_neg e] at h1 h3
        cases h4
        exact absurd (.inl ⟨i, o1, B1, h1, h3, hbb⟩) hn
      · rw [if_neg e] at h1 h3
        rw [if_neg e'] at h2 h4
        exact h.inj i i' o1 o2 B1 B2 h1 h2 h3 h4 hbb
    has := fun i o1 h1 hn => by
      simp only [Gh.new, Sto.get_add] at h1 ⊢
      by_cases e : i = σ.next
      · rw [if_pos e]; exact ⟨_, rfl⟩
      · rw [if_neg e] at h1 ⊢; exact h.has i o1 h1 hn
    freshT := fun i hi => h.freshT i (by simp only [Sto.next_add] at hi; omega)
    tok := h.tok.step rfl (fun i es n hi => by
        simp only [Sto.get_add] at hi
        split at hi
        · cases hi
        · exact hi) (fun _ _ _ => ⟨rfl, fun _ => rfl⟩) (fun i b' hb' i' o1 B1 h1 h2 => by
        simp only [Gh.new, Sto.get_add] at h1 h2
        by_cases e : i' = σ.next
        · rw [if_pos e] at h2; cases h2
          rintro rfl
          exact hn (.inr ⟨i, hb'⟩)
        · rw [if_neg e] at h1 h2; exact h.tok.oj i b' hb' i' o1 B1 h1 h2) }

theorem Own.adopt {G : Gh} {σ : Sto} {b b' : Nat} {cells : List AV} {n : Nat} (hT : ∀ i, σ.next ≤ i → G.T i = none) (hn : ¬ Own G σ b') (hne : b' ≠ b) : ¬ Own (G.new σ.next ⟨b, 0, n, 0⟩) (σ.add (.box cells)) b' := by
  rintro (⟨i, o', B', h1, h2, h3⟩ | ⟨i, es, m, T, o', h1, h2, h3⟩)
  · simp only [Gh.new, Sto.get_add] at h1 h2
    by_cases e : i = σ.next
    · rw [if_pos e] at h2; cases h2; exact hne h3.symm
    · rw [if_neg e] at h1 h2; exact hn (.inl ⟨i, o', B', h1, h2, h3⟩)
  · simp only [Sto.get_add] at h1
    split at h1
    · cases h1
    · exact hn (.inr ⟨i, es, m, T, o', h1, h2, h3⟩)

theorem Ext.adopt {gl : Nat → List AV} {w0 ws w : World} {G0 G : Gh} {σ0 σ : Sto} (h : Inv gl w0 G σ w) (hx : Ext G0 σ0 ws G σ w) {b : Nat} {cells : List AV} (n : Nat) (hb : ws.heap.size ≤ b) :
    Ext G0 σ0 ws (G.new σ.next ⟨b, 0, n, 0⟩) (σ.add (.box cells)) w where
  le := hx.le.trans (Gh.le_new _ (h.fresh _ (Nat.le_refl _)))
  size := hx.size
  keep := fun b' hb' ho => by
    obtain ⟨k1, k2, k3⟩ := hx.keep b' hb' ho
    exact ⟨k1, k2, Own.adopt h.freshT k3 (by omega)⟩
  next := by have := hx.next; simp only [Sto.next_add]; omega

theorem getV_set_ne {xs : Array Value} {i j : Nat} {v u : Value} (h : i ≠ j) : (xs.setIfInBounds i v).getD j u = xs.getD j u := by
  simp [Array.getD_eq_getD_getElem?, Array.getElem?_setIfInBounds_ne h]

/-- An allocation that floats. -/
def isFl (ops : Array Oper) (i : Nat) : Bool := match ops[i]? with | some o => o.guard.isNone && (match o.op with | .alloc _ => true | _ => false) && o.dst.isSome | none => false

def chk1F (ops : Array Oper) (fl : List DF) (B : List Nat) (j : Nat) (o : Oper) (i : Nat) : Bool :=
  (!isB B j i || (decide (i < j) && o.after.toList.any fun e => Region.binds .any e && (e.on == i || isB B e.on i))) &&
  ((namesT ops o).all fun t => dstOf ops i != some t || i == j || (decide (i < j) && isB B j i) || (decide (j < i) && isB B i j)) &&
  (!(flAt fl i).mv || !decide (i < j) || (if (flAt fl j).mv then isFl ops j || isB B j i else pureOp o.op || isB B j i || decide (rank fl j ≤ rank fl i + (flAt fl j).bk))) &&
  (!(flAt fl i).mv || !decide (j < i) || (flAt fl j).mv || pureOp o.op || isB B i j || decide (rank fl i < rank fl j + (flAt fl j).fw)) &&
  (!isFl ops i || !isB B j i || (List.range i).all fun k => !(flAt fl k).mv || isB B j k) &&
  (!isFl ops j || (flAt fl j).mv)

def chkF (ops : Array Oper) (fl : List DF) (B : List Nat) : Bool :=
  fl.length == ops.size && (List.range ops.size).all fun j => match ops[j]? with
    | none => false
    | some o => (o.after.toList.all fun e => !Region.binds .any e || decide (e.on < j)) && (List.range ops.size).all fun i => chk1F ops fl B j o i

section
variable {ops : Array Oper} {fl : List DF} {B : List Nat}

structure ChkF (ops : Array Oper) (fl : List DF) (B : List Nat) : Prop where
  at' : ∀ {j : Nat} {o : Oper}, ops[j]? = some o → ∀ e ∈ o.after, Region.binds .any e = true → e.on < j
  b : ∀ {j i : Nat} {o : Oper}, ops[j]? = some o → i < ops.size → isB B j i = true → i < j ∧ ∃ e ∈ o.after, Region.binds .any e = true ∧ (e.on = i ∨ isB B e.on i = true)
  n : ∀ {j i : Nat} {o : Oper} {t : Tmp}, ops[j]? = some o → i < ops.size → t ∈ namesT ops o → dstOf ops i = some t → i = j ∨ (i < j ∧ isB B j i = true) ∨ (j < i ∧ isB B i j = true)
  m : ∀ {j i : Nat} {o : Oper}, ops[j]? = some o → i < ops.size → i < j → (flAt fl i).mv = true → if (flAt fl j).mv = true then isFl ops j = true ∨ isB B j i = true else pureOp o.op = true ∨ isB B j i = true ∨ rank fl j ≤ rank fl i + (flAt fl j).bk
  f : ∀ {j i : Nat} {o : Oper}, ops[j]? = some o → i < ops.size → j < i → (flAt fl i).mv = true → (flAt fl j).mv = false → pureOp o.op = true ∨ isB B i j = true ∨ rank fl i < rank fl j + (flAt fl j).fw
  a : ∀ {j i : Nat} {o : Oper}, ops[j]? = some o → i < ops.size → isFl ops i = true → isB B j i = true → ∀ k < i, (flAt fl k).mv = true → isB B j k = true
  v : ∀ {j : Nat} {o : Oper}, ops[j]? = some o → isFl ops j = true → (flAt fl j).mv = true

theorem chkF_of (h : chkF ops fl B = true) : ChkF ops fl B := by
  have at0 : ∀ {j : Nat} {o : Oper}, ops[j]? = some o → (∀ e ∈ o.after, Region.binds .any e = true → e.on < j) ∧ ∀ i, i < ops.size → chk1F ops fl B j o i = true := by
    intro j o ho
    simp only [chkF, Bool.and_eq_true, List.all_eq_true, List.mem_range] at h
    have hj : j < ops.size := (Array.getElem?_eq_some_iff.1 ho).1
    have h2 := h.2 j hj
    rw [ho] at h2
    simp only [Bool.and_eq_true, List.all_eq_true, List.mem_range, Bool.or_eq_true, Bool.not_eq_true', decide_eq_true_eq] at h2
    refine ⟨fun e he hb => ?_, h2.2⟩
    rcases h2.1 e (Array.mem_toList_iff.2 he) with h3 | h3
    · rw [hb] at h3; cases h3
    · exact h3
  refine ⟨fun ho => (at0 ho).1, ?_, ?_, ?_, ?_, ?_, ?_⟩
  · intro j i o ho hi hb
    have h1 := (at0 ho).2 i hi
    simp only [chk1F, Bool.and_eq_true, Bool.or_eq_true, hb, Bool.not_true, Bool.false_eq_true, false_or, decide_eq_true_eq, List.any_eq_true, beq_iff_eq] at h1
    obtain ⟨⟨⟨⟨⟨⟨h1, e, he, hbd, h2⟩, _⟩, _⟩, _⟩, _⟩, _⟩ := h1
    exact ⟨h1, e, Array.mem_toList_iff.1 he, hbd, h2⟩
  · intro j i o t ho hi ht hd
    have h1 := (at0 ho).2 i hi
    simp only [chk1F, Bool.and_eq_true, List.all_eq_true] at h1
    have h2 := h1.1.1.1.1.2 t ht
    simp only [hd, Bool.or_eq_true, bne_self_eq_false, Bool.false_eq_true, false_or, beq_iff_eq, Bool.and_eq_true, decide_eq_true_eq] at h2
    rcases h2 with (h2 | h2) | h2
    · exact .inl h2
    · exact .inr (.inl h2)
    · exact .inr (.inr h2)
  · intro j i o ho hi hij hm
    have h1 := (at0 ho).2 i hi
    simp only [chk1F, Bool.and_eq_true, Bool.or_eq_true, hm, hij, Bool.not_true, Bool.false_eq_true, false_or, decide_true] at h1
    have h2 := h1.1.1.1.2
    split
    · rename_i e; rw [if_pos e] at h2; simpa using h2
    · rename_i e; rw [if_neg e] at h2
      simp only [Bool.or_eq_true, decide_eq_true_eq] at h2
      rcases h2 with (h2 | h2) | h2
      · exact .inl h2
      · exact .inr (.inl h2)
      · exact .inr (.inr h2)
  · intro j i o ho hi hij hm hj
    have h1 := (at0 ho).2 i hi
    simp only [chk1F, Bool.and_eq_true, Bool.or_eq_true, hm, hj, hij, Bool.not_true, Bool.false_eq_true, false_or, decide_true, decide_eq_true_eq] at h1
    rcases h1.1.1.2 with (h2 | h2) | h2
    · exact .inl h2
    · exact .inr (.inl h2)
    · exact .inr (.inr h2)
  · intro j i o ho hi hfl hb k hk hm
    have h1 := (at0 ho).2 i hi
    simp only [chk1F, Bool.and_eq_true, Bool.or_eq_true, hfl, hb, Bool.not_true, Bool.false_eq_true, false_or, List.all_eq_true, List.mem_range] at h1
    have := h1.1.2 k hk
    simpa [hm] using this
  · intro j o ho hfl
    have hj : j < ops.size := (Array.getElem?_eq_some_iff.1 ho).1
    have h1 := (at0 ho).2 j hj
    simp only [chk1F, Bool.and_eq_true, Bool.or_eq_true, hfl, Bool.not_true, Bool.false_eq_true, false_or] at h1
    exact h1.2

/-- Done, as the store sees it. -/
def Adp (ops : Array Oper) (fl : List DF) (listed : Array Bool) (m : Nat) (i : Nat) : Prop := if isFl ops i = true then rank fl i < m else listed.getD i false = true
/-- Made, but kept aside. -/
def Asd (ops : Array Oper) (fl : List DF) (listed : Array Bool) (m : Nat) (i : Nat) : Prop := i < ops.size ∧ isFl ops i = true ∧ listed.getD i false = true ∧ ¬ rank fl i < m

def EnvT (ops : Array Oper) (val : Nat → AV) (env0 : Env) (L : Nat → Prop) (env : Env) (t : Tmp) : Prop :=
  (∀ i, i < ops.size → L i → dstOf ops i = some t → (∀ j, j < ops.size → L j → dstOf ops j = some t → j ≤ i) → env t = val i) ∧ ((∀ i, i < ops.size → L i → dstOf ops i ≠ some t) → env t = env0 t)

theorem EnvT.agree {val : Nat → AV} {env0 env env' : Env} {L L' : Nat → Prop} {t : Tmp} (h : EnvT ops val env0 L env t) (h' : EnvT ops val env0 L' env' t) (hl : ∀ i, i < ops.size → dstOf ops i = some t → (L i ↔ L' i)) : env t = env' t := by
  by_cases hex : ∃ i, i < ops.size ∧ (L i ∧ dstOf ops i = some t)
  · obtain ⟨i, hi, ⟨h1, h2⟩, h3⟩ := max_of hex
    rw [h.1 i hi h1 h2 (fun j hj hL hd => h3 j hj ⟨hL, hd⟩)]
    exact (h'.1 i hi ((hl i hi h2).1 h1) h2 (fun j hj hL hd => h3 j hj ⟨(hl j hj hd).2 hL, hd⟩)).symm
  · rw [h.2 (fun i hi hL hd => hex ⟨i, hi, hL, hd⟩), h'.2 (fun i hi hL hd => hex ⟨i, hi, (hl i hi hd).2 hL, hd⟩)]

/-- What is known of the operations that are listed; adoption may be due. -/
structure LSP (ops : Array Oper) (fl : List DF) (B : List Nat) (val : Nat → AV) (env0 : Env) (listed : Array Bool) (m : Nat) (env : Env) : Prop where
  size : listed.size = ops.size
  cl : ∀ j i, j < ops.size → i < ops.size → listed.getD j false = true → isB B j i = true → listed.getD i false = true
  mv : ∀ i, i < ops.size → (flAt fl i).mv = true → isFl ops i = false → (listed.getD i false = true ↔ rank fl i < m)
  al : ∀ i, i < ops.size → isFl ops i = true → rank fl i < m → listed.getD i false = true
  ad : ∀ j i, j < ops.size → i < ops.size → isFl ops i = true → isFl ops j = false → isB B j i = true → listed.getD j false = true → rank fl i < m
  le : m ≤ rank fl ops.size
  env : ∀ t, (∀ i, Asd ops fl listed m i → dstOf ops i ≠ some t) → EnvT ops val env0 (Adp ops fl listed m) env t

/-- A block kept aside for operation i. -/
def AsdAt (C : Cx) (ops : Array Oper) (w0 ws : World) (G : Gh) (σ : Sto) (a : Act) (w : World) (i b : Nat) : Prop :=
  ∃ d t o ti, ops[i]? = some o ∧ o.dst = some d ∧ o.op = .alloc t ∧ C.ty t = some ti ∧ a.tmps.getD d undef = .pointer (some ⟨b, 0, none⟩) ∧ w0.heap.size ≤ b ∧ ws.heap.size ≤ b ∧ w.heap[b]? = some (.cells ti.zero.cells t (0, 0)) ∧ (∀ k, G.I b k = none) ∧ ¬ Own G σ b
def AsdAll (C : Cx) (ops : Array Oper) (fl : List DF) (listed : Array Bool) (m : Nat) (w0 ws : World) (G : Gh) (σ : Sto) (a : Act) (w : World) : Prop :=
  ∃ bl : Nat → Nat, (∀ i, Asd ops fl listed m i → AsdAt C ops w0 ws G σ a w i (bl i)) ∧ ∀ i j, Asd ops fl listed m i → Asd ops fl listed m j → bl i = bl j → i = j

theorem isFl_of {i : Nat} (h : isFl ops i = true) : ∃ o d t, ops[i]? = some o ∧ o.dst = some d ∧ o.op = .alloc t ∧ o.guard = none ∧ i < ops.size := by
  unfold isFl at h
  cases ho : ops[i]? with
  | none => rw [ho] at h; cases h
  | some o =>
    rw [ho] at h
    simp only [Bool.and_eq_true, Option.isNone_iff_eq_none, Option.isSome_iff_exists] at h
    obtain ⟨⟨h1, h2⟩, d, h3⟩ := h
    split at h2
    · rename_i t ht
      exact ⟨o, d, t, rfl, h3, ht, h1, (Array.getElem?_eq_some_iff.1 ho).1⟩
    · cases h2

/-- The moving operation of a rank. -/
theorem of_rank (hlen : fl.length = ops.size) {m k : Nat} (hk : k ≤ ops.size) (h : m < rank fl k) : ∃ i, i < k ∧ (flAt fl i).mv = true ∧ rank fl i = m := by
  induction k with
  | zero => simp [rank] at h
  | succ k ih =>
    have hs := rank_succ (fl := fl) k (by omega)
    by_cases hmv : (flAt fl k).mv = true
    · rw [if_pos hmv] at hs
      by_cases e : rank fl k = m
      · exact ⟨k, by omega, hmv, e⟩
      · obtain ⟨i, h1, h2⟩ := ih (by omega) (by omega)
        exact ⟨i, by omega, h2⟩
    · rw [if_neg hmv] at hs
      obtain ⟨i, h1, h2⟩ := ih (by omega) (by omega)
      exact ⟨i, by omega, h2⟩
theorem rank_inj (hlen : fl.length = ops.size) {i j : Nat} (hi : i < ops.size) (hj : j < ops.size) (h1 : (flAt fl i).mv = true) (h2 : (flAt fl j).mv = true) (h : rank fl i = rank fl j) : i = j := by
  rcases Nat.lt_trichotomy i j with h' | h' | h'
  · have := rank_lt (fl := fl) h' (by omega) h1; omega
  · exact h'
  · have := rank_lt (fl := fl) h' (by omega) h2; omega

variable {C : Cx} {nt : Nat} {val : Nat → AV} {st : Nat → Sto} {env0 : Env}

/-- What is due is taken in. -/
theorem adopt_all (hF : ChkF ops fl B) (hlen : fl.length = ops.size) (good : ∀ i o, ops[i]? = some o → Good C nt ops fl val st env0 i o) {w0 ws : World} {G0 : Gh} {σ0 : Sto} {listed : Array Bool} {a : Act} {w : World} : ∀ (k m : Nat) (env : Env) (G : Gh), rank fl ops.size - m ≤ k → LSP ops fl B val env0 listed m env → AsdAll C ops fl listed m w0 ws G (st m) a w →
    Rel C w0 G nt env (st m) a w → Ext G0 σ0 ws G (st m) w →
    ∃ m' env' G', LSP ops fl B val env0 listed m' env' ∧ (∀ i, Asd ops fl listed m' i → rank fl i ≠ m') ∧ AsdAll C ops fl listed m' w0 ws G' (st m') a w ∧ Rel C w0 G' nt env' (st m') a w ∧ Ext G0 σ0 ws G' (st m') w := by
  intro k
  induction k with
  | zero =>
    intro m env G hk hl ha hr hx
    refine ⟨m, env, G, hl, fun i hi e => ?_, ha, hr, hx⟩
    obtain ⟨h1, h2, h3, h4⟩ := hi
    obtain ⟨o, d, t, ho, _⟩ := isFl_of h2
    have := rank_lt (fl := fl) h1 (by omega) (hF.v ho h2)
    have := hl.le
    omega
  | succ k ih =>
    intro m env G hk hl ha hr hx
    by_cases hex : ∃ i, Asd ops fl listed m i ∧ rank fl i = m
    · obtain ⟨i, hi, hrk⟩ := hex
      obtain ⟨bl, hb1, hb2⟩ := ha
      obtain ⟨d, t, o, ti, ho, hd, hop, hty, htm, hw0, hws, hhp, hI, hnO⟩ := hb1 i hi
      obtain ⟨h1, h2, h3, h4⟩ := hi
      obtain ⟨o', d', t', ho', _, _, hgd, _⟩ := isFl_of h2
      rw [ho] at ho'; cases ho'
      have hmv := hF.v ho h2
      have hg := good i o ho
      have hgo : goesA (guardA nt ops (envAt ops val env0 i) o) = true := by simp [guardA, hgd, goesA]
      obtain ⟨g1, g2, g3⟩ := hg.ao hgo hmv (by rw [hop]; rfl)
      have haop : aop C (ev C nt (envAt ops val env0 i)) (st (rank fl i)) o.op = allocA (st (rank fl i)) (C.ty t) := by rw [hop]; rfl
      rw [haop, hty] at g1 g2 g3
      simp only [allocA] at g1 g2 g3
      rw [hrk] at g2 g3
      have hlt := rank_lt (fl := fl) h1 (by omega) hmv
      obtain ⟨c1, c2⟩ := (rep_ofV G ti.zero).cells g1
      have hinv := hr.inv.adopt hw0 hhp hI hnO c1 c2
      have hle := Gh.le_new (G := G) (id := (st m).next) ⟨bl i, 0, (ofV ti.zero).cells.length, 0⟩ (hr.inv.fresh _ (Nat.le_refl _))
      have hdi : dstOf ops i = some d := by simp [dstOf, ho, hd]
      have asd : ∀ j, Asd ops fl listed (m + 1) j ↔ Asd ops fl listed m j ∧ j ≠ i := fun j => by
        constructor
        · rintro ⟨k1, k2, k3, k4⟩
          refine ⟨⟨k1, k2, k3, by omega⟩, ?_⟩
          rintro rfl; omega
        · rintro ⟨⟨k1, k2, k3, k4⟩, hne⟩
          refine ⟨k1, k2, k3, fun hlt' => ?_⟩
          have : rank fl j = rank fl i := by omega
          obtain ⟨oj, _, _, hoj, _⟩ := isFl_of k2
          exact hne (rank_inj hlen k1 h1 (hF.v hoj k2) hmv this)
      have adp : ∀ j, j < ops.size → (Adp ops fl listed (m + 1) j ↔ Adp ops fl listed m j ∨ j = i) := fun j hj => by
        unfold Adp
        by_cases hfj : isFl ops j = true
        · rw [if_pos hfj, if_pos hfj]
          obtain ⟨oj, _, _, hoj, _⟩ := isFl_of hfj
          constructor
          · intro h
            by_cases e : rank fl j = m
            · exact .inr (rank_inj hlen hj h1 (hF.v hoj hfj) hmv (by omega))
            · exact .inl (by omega)
          · rintro (h | rfl) <;> omega
        · rw [if_neg hfj, if_neg hfj]
          constructor
          · exact .inl
          · rintro (h | rfl)
            · exact h
            · exact absurd h2 hfj
      have hLSP : LSP ops fl B val env0 listed (m + 1) (upd env d (val i)) := {
        size := hl.size
        cl := hl.cl
        mv := fun j hj hm hf => by
          rw [hl.mv j hj hm hf]
          constructor
          · omega
          · intro h
            by_cases e : rank fl j = m
            · have := rank_inj hlen hj h1 hm hmv (by omega)
              subst this; rw [h2] at hf; cases hf
            · omega
        al := fun j hj hf hr => by
          by_cases e : rank fl j = m
          · obtain ⟨oj, _, _, hoj, _⟩ := isFl_of hf
            have := rank_inj hlen hj h1 (hF.v hoj hf) hmv (by omega)
            subst this; exact h3
          · exact hl.al j hj hf (by omega)
        ad := fun j k hj hk h5 h6 h7 h8 => Nat.lt_succ_of_lt (hl.ad j k hj hk h5 h6 h7 h8)
        le := by omega
        env := fun u hu => by
          by_cases e : u = d
          · subst e
            have hval : upd env u (val i) u = val i := by simp [upd]
            have others : ∀ j, j < ops.size → dstOf ops j = some u → Adp ops fl listed (m + 1) j → j ≤ i := fun j hj hdj hA => by
              rcases hF.n ho hj (t := u) (by simp [namesT, hd]) hdj with rfl | ⟨q1, _⟩ | ⟨q1, q2⟩
              · exact Nat.le_refl _
              · omega
              · exfalso
                have hfj : isFl ops j = false := by
                  cases hfj : isFl ops j with
                  | false => rfl
                  | true =>
                    have hA := (adp j hj).1 hA
                    unfold Adp at hA
                    rw [if_pos hfj] at hA
                    obtain ⟨oj, _, _, hoj, _⟩ := isFl_of hfj
                    have := rank_lt (fl := fl) q1 (by omega) hmv
                    rcases hA with hA | rfl <;> omega
                unfold Adp at hA
                rw [if_neg (by rw [hfj]; decide)] at hA
                exact h4 (hl.ad j i hj h1 h2 hfj q2 hA)
            refine ⟨fun j hj hA hdj hmax => ?_, fun hno => absurd hdi (hno i h1 ((adp i h1).2 (.inr rfl)))⟩
            have e1 := others j hj hdj hA
            have e2 := hmax i h1 ((adp i h1).2 (.inr rfl)) hdi
            have : j = i := by omega
            subst this; exact hval
          · have hval : upd env d (val i) u = env u := by simp [upd, e]
            have hne : dstOf ops i ≠ some u := by rw [hdi]; intro h; cases h; exact e rfl
            obtain ⟨e1, e2⟩ := hl.env u fun j hj => by
              by_cases eji : j = i
              · subst eji; exact hne
              · exact hu j ((asd j).2 ⟨hj, eji⟩)
            rw [EnvT, hval]
            refine ⟨fun j hj hA hdj hmax => e1 j hj ?_ hdj fun k hk hAk hdk => hmax k hk ((adp k hk).2 (.inl hAk)) hdk, fun hno => e2 fun j hj hA => hno j hj ((adp j hj).2 (.inl hA))⟩
            rcases (adp j hj).1 hA with h | rfl
            · exact h
            · exact absurd hdj hne }
      refine ih (m + 1) (upd env d (val i)) (G.new (st m).next ⟨bl i, 0, (ofV ti.zero).cells.length, 0⟩) (by omega) hLSP ⟨bl, fun j hj => ?_, fun j j' hj hj' => hb2 j j' ((asd j).1 hj).1 ((asd j').1 hj').1⟩ ?_ ?_
      · obtain ⟨hj, hji⟩ := (asd j).1 hj
        obtain ⟨d', t', o', ti', q1, q2, q3, q4, q5, q6, q7, q8, q9, q10⟩ := hb1 j hj
        refine ⟨d', t', o', ti', q1, q2, q3, q4, q5, q6, q7, q8, q9, ?_⟩
        rw [g3]
        exact Own.adopt hr.inv.freshT q10 fun e => hji (hb2 j i hj ⟨h1, h2, h3, h4⟩ e)
      · rw [g3]
        refine ⟨hinv, hr.env.size, fun u hu => ?_⟩
        by_cases e : u = d
        · subst e
          rw [htm, g2]
          simp only [upd, if_true]
          exact .ptr _ _ ⟨bl i, 0, (ofV ti.zero).cells.length, 0⟩ (by simp [Gh.new])
        · simp only [upd, if_neg e]
          exact (hr.env.rep u hu).mono hle
      · rw [g3]; exact Ext.adopt hr.inv hx _ hws
    · exact ⟨m, env, G, hl, fun i hi e => hex ⟨i, hi, e⟩, ha, hr, hx⟩

theorem ready_bF (hF : ChkF ops fl B) {listed : Array Bool} (hs : listed.size = ops.size) (hcl : ∀ j i, j < ops.size → i < ops.size → listed.getD j false = true → isB B j i = true → listed.getD i false = true) {i : Nat} (hr : i ∈ Region.ready .any ops listed) :
    ∃ o, ops[i]? = some o ∧ i < ops.size ∧ listed.getD i false = false ∧ ∀ k, k < ops.size → isB B i k = true → listed.getD k false = true := by
  obtain ⟨h0, o, ho, hall⟩ := mem_ready.1 hr
  have hi : i < ops.size := (Array.getElem?_eq_some_iff.1 ho).1
  refine ⟨o, ho, hi, ?_, fun k hk hb => ?_⟩
  · have : i < listed.size := by rw [hs]; exact hi
    simpa [Array.getD_eq_getD_getElem?, this] using h0
  · obtain ⟨_, e, he, hbd, h2⟩ := hF.b ho hk hb
    have h3 := hall e he hbd
    rcases h2 with rfl | h2
    · exact h3
    · exact hcl e.on k (Nat.lt_trans (hF.at' ho e he hbd) hi) hk h3 h2

set_option maxHeartbeats 800000 in
theorem anyF {ro : Option Nat} (hF : ChkF ops fl B) (hlen : fl.length = ops.size) (good : ∀ i o, ops[i]? = some o → Good C nt ops fl val st env0 i o)
    {w0 : World} {Q : Exit → Act → World → Prop} {G0 : Gh} {σ0 : Sto} {ws : World} {df : List Deferred} (hws : w0.heap.size ≤ ws.heap.size) (hnt : ∀ i o d, isFl ops i = true → ops[i]? = some o → o.dst = some d → d < nt)
    (hQ : ∀ G a w, Rel C w0 G nt (envAt ops val env0 ops.size) (st (rank fl ops.size)) a w → Ext G0 σ0 ws G (st (rank fl ops.size)) w → a.defers = df → Q .normal a w) :
    ∀ fuel listed env m G a w, (List.range ops.size).countP (fun i => !listed.getD i false) ≤ fuel → LSP ops fl B val env0 listed m env → (∀ i, Asd ops fl listed m i → rank fl i ≠ m) → AsdAll C ops fl listed m w0 ws G (st m) a w →
      Rel C w0 G nt env (st m) a w → Ext G0 σ0 ws G (st m) w → a.defers = df → wpAnyIn (FW ro) 0 C.P .any ops Q fuel listed a w := by
  have hempty : ∀ listed env m G a w, LSP ops fl B val env0 listed m env → (∀ i, Asd ops fl listed m i → rank fl i ≠ m) → Rel C w0 G nt env (st m) a w → Ext G0 σ0 ws G (st m) w → a.defers = df → Region.ready .any ops listed = [] → Q .normal a w := by
    intro listed env m G a w hl hclo hrel hext hdf hr
    have hall : ∀ i, i < ops.size → listed.getD i false = true := by
      intro i
      induction i using Nat.strongRecOn with
      | _ i ih =>
        intro hi
        cases hli : listed.getD i false with
        | true => rfl
        | false =>
          exfalso
          have : i ∈ Region.ready .any ops listed := by
            refine mem_ready.2 ⟨?_, ops[i], Array.getElem?_eq_getElem hi, fun e he hb => ?_⟩
            · have hs : i < listed.size := by rw [hl.size]; exact hi
              simpa [Array.getD_eq_getD_getElem?, hs] using hli
            · have hlt := hF.at' (Array.getElem?_eq_getElem hi) e he hb
              exact ih e.on hlt (Nat.lt_trans hlt hi)
          rw [hr] at this; cases this
    have hm : m = rank fl ops.size := by
      rcases Nat.lt_or_ge m (rank fl ops.size) with hlt | hge
      · exfalso
        obtain ⟨i, h1, h2, h3⟩ := of_rank hlen (Nat.le_refl _) hlt
        cases hfi : isFl ops i with
        | true => exact hclo i ⟨h1, hfi, hall i h1, by omega⟩ h3
        | false => have := (hl.mv i h1 h2 hfi).1 (hall i h1); omega
      · have := hl.le; omega
    subst hm
    have hA : ∀ i, i < ops.size → Adp ops fl listed (rank fl ops.size) i := fun i hi => by
      unfold Adp
      split
      · rename_i hf
        obtain ⟨o, _, _, ho, _⟩ := isFl_of hf
        exact rank_lt hi (by omega) (hF.v ho hf)
      · exact hall i hi
    have he : env = envAt ops val env0 ops.size := by
      funext t
      refine (hl.env t fun i hi => ?_).agree (envAt_L val env0 ops.size (Nat.le_refl _) t) fun i hi _ => ⟨fun _ => hi, fun _ => hA i hi⟩
      obtain ⟨h1, h2, h3, h4⟩ := hi
      obtain ⟨o, _, _, ho, _⟩ := isFl_of h2
      exact absurd (rank_lt h1 (by omega) (hF.v ho h2)) h4
    subst he
    exact hQ G a w hrel hext hdf
  intro fuel
  induction fuel with
  | zero =>
    intro listed env m G a w hc hl hclo ha hrel hext hdf
    have hr : Region.ready .any ops listed = [] := by
      cases hr : Region.ready .any ops listed with
      | nil => rfl
      | cons i l =>
        obtain ⟨o, ho, hi, h1, _⟩ := ready_bF hF hl.size hl.cl (i := i) (by rw [hr]; simp)
        have := List.countP_eq_zero.1 (Nat.le_zero.1 hc) i (List.mem_range.2 hi)
        simp [h1] at this
    exact ⟨hr, hempty listed env m G a w hl hclo hrel hext hdf hr⟩
  | succ fuel ih =>
    intro listed env m G a w hc hl hclo ha hrel hext hdf
    refine ⟨hempty listed env m G a w hl hclo hrel hext hdf, fun i hr => ?_⟩
    obtain ⟨o, ho, hi, hun, hbef⟩ := ready_bF hF hl.size hl.cl hr
    have hgood := good i o ho
    have hlater : ∀ k, k < ops.size → isB B k i = true → listed.getD k false = false := fun k hk hb => by
      cases hL : listed.getD k false with
      | false => rfl
      | true => have := hl.cl k i hk hi hL hb; rw [hun] at this; cases this
    have notA : ∀ j, Asd ops fl listed m j → j ≠ i := fun j hj e => by subst e; have := hj.2.2.1; rw [hun] at this; cases this
    -- who has been bound ahead is done as the store sees it
    have bound : ∀ j, j < ops.size → isB B i j = true → Adp ops fl listed m j := fun j hj hb => by
      unfold Adp
      split
      · rename_i hf
        rcases Nat.lt_or_ge (rank fl j) m with h | h
        · exact h
        · exfalso
          obtain ⟨oj, _, _, hoj, _⟩ := isFl_of hf
          have hmj := hF.v hoj hf
          rcases Nat.lt_or_eq_of_le h with h | h
          · obtain ⟨k, k1, k2, k3⟩ := of_rank hlen (Nat.le_of_lt hj) h
            have hbk := hF.a ho hj hf hb k k1 k2
            have hlk := hbef k (by omega) hbk
            cases hfk : isFl ops k with
            | true => exact hclo k ⟨by omega, hfk, hlk, by omega⟩ k3
            | false => have := (hl.mv k (by omega) k2 hfk).1 hlk; omega
          · exact hclo j ⟨hj, hf, hbef j hj hb, by omega⟩ h.symm
      · exact hbef j hj hb
    have noAsd : ∀ t ∈ namesT ops o, ∀ j, Asd ops fl listed m j → dstOf ops j ≠ some t := fun t ht j hj hd => by
      obtain ⟨h1, h2, h3, h4⟩ := hj
      rcases hF.n ho h1 ht hd with rfl | ⟨_, q2⟩ | ⟨_, q2⟩
      · rw [hun] at h3; cases h3
      · have := bound j h1 q2
        unfold Adp at this; rw [if_pos h2] at this; exact h4 this
      · rw [hlater j h1 q2] at h3; cases h3
    have hag : ∀ t ∈ namesT ops o, env t = envAt ops val env0 i t := fun t ht => by
      refine (hl.env t (noAsd t ht)).agree (envAt_L val env0 i (by omega) t) fun j hj hd => ?_
      rcases hF.n ho hj ht hd with rfl | ⟨h1, h2⟩ | ⟨h1, h2⟩
      · refine ⟨fun hL => ?_, fun hL => absurd hL (Nat.lt_irrefl _)⟩
        unfold Adp at hL
        split at hL
        · rename_i hf; have := hl.al j hj hf hL; rw [hun] at this; cases this
        · rw [hun] at hL; cases hL
      · exact ⟨fun _ => h1, fun _ => bound j hj h2⟩
      · refine ⟨fun hL => ?_, fun hL => absurd hL (by omega)⟩
        have hlj := hlater j hj h2
        unfold Adp at hL
        split at hL
        · rename_i hf; have := hl.al j hj hf hL; rw [hlj] at this; cases this
        · rw [hlj] at hL; cases hL
    have hev : ∀ x ∈ o.op.operands.toList, ev C nt (envAt ops val env0 i) x = ev C nt env x := fun x hx => by
      cases x with
      | tmp t =>
        have : t ∈ namesT ops o := by
          simp only [namesT, List.mem_append]
          exact .inl (.inr (List.mem_filterMap.2 ⟨.tmp t, hx, rfl⟩))
        simp only [ev, hag t this]
      | _ => rfl
    have hgd : guardA nt ops env o = guardA nt ops (envAt ops val env0 i) o := by
      unfold guardA
      cases hg : o.guard with
      | none => rfl
      | some jw =>
        obtain ⟨j, want⟩ := jw
        simp only
        cases hd : (ops[j]?).bind (·.dst) with
        | none => rfl
        | some d =>
          have : d ∈ namesT ops o := by
            simp only [namesT, List.mem_append, hg]
            exact .inr (by simp [dstOf, hd])
          simp only [hag d this]
    have hset : ∀ k, k < ops.size → (listed.setIfInBounds i true).getD k false = if k = i then true else listed.getD k false := fun k hk => by
      by_cases e : k = i
      · subst e
        have : k < listed.size := by rw [hl.size]; exact hk
        simp [Array.getD_eq_getD_getElem?, this]
      · rw [if_neg e]; exact getD_set_ne false (Ne.symm e)
    have hcnt : (List.range ops.size).countP (fun k => !(listed.setIfInBounds i true).getD k false) ≤ fuel := by
      have : (List.range ops.size).countP (fun k => !(listed.setIfInBounds i true).getD k false) < (List.range ops.size).countP (fun k => !listed.getD k false) := by
        refine countP_lt (a := i) (fun x hx => ?_) (List.mem_range.2 hi) (by simp [hun]) (by simp [hset i hi])
        by_cases e : x = i
        · subst e; simp [hun]
        · rw [getD_set_ne false (Ne.symm e)] at hx; exact hx
      omega
    have hdst : dstOf ops i = o.dst := by simp [dstOf, ho]
    have hcl' : ∀ j k, j < ops.size → k < ops.size → (listed.setIfInBounds i true).getD j false = true → isB B j k = true → (listed.setIfInBounds i true).getD k false = true := fun j k hj hk hL hb => by
      rw [hset k hk]
      rw [hset j hj] at hL
      by_cases ek : k = i
      · rw [if_pos ek]
      · rw [if_neg ek]
        by_cases ej : j = i
        · subst ej; exact hbef k hk hb
        · rw [if_neg ej] at hL; exact hl.cl j k hj hk hL hb
    by_cases hfi : isFl ops i = true
    · -- an allocation: its block is kept aside
      obtain ⟨o', d, t, ho', hd, hop, hgn, _⟩ := isFl_of hfi
      rw [ho] at ho'; cases ho'
      have hmv := hF.v ho hfi
      have hgo : goesA (guardA nt ops (envAt ops val env0 i) o) = true := by simp [guardA, hgn, goesA]
      obtain ⟨g1, _, _⟩ := hgood.ao hgo hmv (by rw [hop]; rfl)
      have haop : aop C (ev C nt (envAt ops val env0 i)) (st (rank fl i)) o.op = allocA (st (rank fl i)) (C.ty t) := by rw [hop]; rfl
      rw [haop] at g1
      cases hty : C.ty t with
      | none => rw [hty] at g1; exact g1.elim
      | some ti =>
      have hri : m ≤ rank fl i := by
        rcases Nat.lt_or_ge (rank fl i) m with h | h
        · have := hl.al i hi hfi h; rw [hun] at this; cases this
        · exact h
      unfold wpOpIn
      simp only [ho]
      rw [wanted_eq hrel.env (by rw [hgd]; exact hgood.g), hgd, hgo]
      simp only [if_true]
      have hexec : (execOp a.eval o).run C.P w = .ok (.value (.pointer (some ⟨w.heap.size, 0, none⟩))) (w.alloc (.cells ti.zero.cells t)) := by simp [execOp, hop, Instr.alloc, C.run_zero hty, run_newVar]
      refine ⟨fun f hf => trivial, ?_⟩
      rw [Oper.semAt_eq _ _ _ (by intro c h; rw [hop] at h; cases h), hexec, Oper.uponIn_value]
      have hinv := hrel.inv.other (.cells ti.zero.cells t)
      have hext' : Ext G0 σ0 ws G (st m) (w.alloc (.cells ti.zero.cells t)) := hext.trans (Ext.other G (st m) _)
      have asd : ∀ j, Asd ops fl (listed.setIfInBounds i true) m j ↔ Asd ops fl listed m j ∨ j = i := fun j => by
        constructor
        · rintro ⟨k1, k2, k3, k4⟩
          rw [hset j k1] at k3
          by_cases e : j = i
          · exact .inr e
          · rw [if_neg e] at k3; exact .inl ⟨k1, k2, k3, k4⟩
        · rintro (⟨k1, k2, k3, k4⟩ | rfl)
          · exact ⟨k1, k2, by rw [hset j k1]; split; rfl; exact k3, k4⟩
          · exact ⟨hi, hfi, by rw [hset j hi, if_pos rfl], by omega⟩
      have adp : ∀ j, j < ops.size → (Adp ops fl (listed.setIfInBounds i true) m j ↔ Adp ops fl listed m j) := fun j hj => by
        unfold Adp
        split
        · exact Iff.rfl
        · rename_i hf
          rw [hset j hj, if_neg (by rintro rfl; exact hf hfi)]
      have hnd : ∀ j, Asd ops fl listed m j → dstOf ops j ≠ some d := noAsd d (by simp [namesT, hd])
      obtain ⟨bl, hb1, hb2⟩ := ha
      have hlt : ∀ j, Asd ops fl listed m j → bl j < w.heap.size := fun j hj => by
        obtain ⟨_, _, _, _, _, _, _, _, _, _, _, q8, _⟩ := hb1 j hj
        exact (Array.getElem?_eq_some_iff.1 q8).1
      have hLSP : LSP ops fl B val env0 (listed.setIfInBounds i true) m (upd env d .undef) := {
        size := by simp [hl.size]
        cl := hcl'
        mv := fun j hj hm hf => by rw [hset j hj, if_neg (by rintro rfl; rw [hfi] at hf; cases hf)]; exact hl.mv j hj hm hf
        al := fun j hj hf hr => by rw [hset j hj]; split; rfl; exact hl.al j hj hf hr
        ad := fun j k hj hk h5 h6 h7 h8 => by
          rw [hset j hj, if_neg (by rintro rfl; rw [hfi] at h6; cases h6)] at h8
          exact hl.ad j k hj hk h5 h6 h7 h8
        le := hl.le
        env := fun u hu => by
          have hne : u ≠ d := fun e => by subst e; exact hu i ((asd i).2 (.inr rfl)) (by rw [hdst, hd])
          have hval : upd env d .undef u = env u := by simp [upd, hne]
          obtain ⟨e1, e2⟩ := hl.env u fun j hj => hu j ((asd j).2 (.inl hj))
          rw [EnvT, hval]
          exact ⟨fun j hj hA hdj hmax => e1 j hj ((adp j hj).1 hA) hdj fun k hk hAk hdk => hmax k hk ((adp k hk).2 hAk) hdk, fun hno => e2 fun j hj hA => hno j hj ((adp j hj).2 hA)⟩ }
      have hput : ∀ u, u ≠ d → (a.put o.dst (.pointer (some ⟨w.heap.size, 0, none⟩))).tmps.getD u undef = a.tmps.getD u undef := fun u hu => by
        rw [hd]; simp only [Act.put]; exact getV_set_ne (Ne.symm hu)
      have hdn : d < nt := hnt i o d hfi ho hd
      have hsame : (a.put o.dst (.pointer (some ⟨w.heap.size, 0, none⟩))).tmps.getD d undef = .pointer (some ⟨w.heap.size, 0, none⟩) := by
        rw [hd]; simp only [Act.put]
        have : d < a.tmps.size := by rw [hrel.env.size]; exact hdn
        simp [Array.getD_eq_getD_getElem?, this]
      have hall : AsdAll C ops fl (listed.setIfInBounds i true) m w0 ws G (st m) (a.put o.dst (.pointer (some ⟨w.heap.size, 0, none⟩))) (w.alloc (.cells ti.zero.cells t)) := by
        refine ⟨fun j => if j = i then w.heap.size else bl j, fun j hj => ?_, fun j k hj hk e => ?_⟩
        · rcases (asd j).1 hj with hj | rfl
          · have hji := notA j hj
            show AsdAt C ops w0 ws G (st m) _ _ j (if j = i then w.heap.size else bl j)
            rw [if_neg hji]
            obtain ⟨d', t', o', ti', q1, q2, q3, q4, q5, q6, q7, q8, q9, q10⟩ := hb1 j hj
            refine ⟨d', t', o', ti', q1, q2, q3, q4, ?_, q6, q7, ?_, q9, q10⟩
            · rw [hput d' (fun e => hnd j hj (by simp [dstOf, q1, q2, e]))]; exact q5
            · rw [Below.heap_alloc _ _ _ (hlt j hj)]; exact q8
          · show AsdAt C ops w0 ws G (st m) _ _ j (if j = j then w.heap.size else bl j)
            rw [if_pos rfl]
            refine ⟨d, t, o, ti, ho, hd, hop, hty, hsame, hrel.inv.base_le, hext.size, heap_alloc_new w _, fun k => ?_, fun hO => ?_⟩
            · cases hI : G.I w.heap.size k with
              | none => rfl
              | some v => have := hrel.inv.imm_lt hI; omega
            · have := Own.lt hrel.inv hO; omega
        · have hj' := (asd j).1 hj
          have hk' := (asd k).1 hk
          rcases hj' with hj' | rfl <;> rcases hk' with hk' | rfl
          · simp only [if_neg (notA j hj'), if_neg (notA k hk')] at e
            exact hb2 j k hj' hk' e
          · simp only [if_neg (notA j hj'), if_true] at e
            have := hlt j hj'; omega
          · simp only [if_neg (notA k hk'), if_true] at e
            have := hlt k hk'; omega
          · rfl
      have hrel' : Rel C w0 G nt (upd env d .undef) (st m) (a.put o.dst (.pointer (some ⟨w.heap.size, 0, none⟩))) (w.alloc (.cells ti.zero.cells t)) := by
        have := hrel.env.put (rep_ofV1 G Go.undef |> fun _ => Rep.undef (.pointer (some ⟨w.heap.size, 0, none⟩))) o.dst
        rw [hd] at this
        exact ⟨hinv, by rw [hd]; exact this⟩
      obtain ⟨m', env', G', k1, k2, k3, k4, k5⟩ := adopt_all hF hlen good _ m _ G (Nat.le_refl _) hLSP hall hrel' hext'
      exact ih _ env' m' G' _ _ hcnt k1 k2 k3 k4 k5 (by rw [← hdf, hd]; rfl)
    · have hfi : isFl ops i = false := by simpa using hfi
      have hmle : (flAt fl i).mv = true → m = rank fl i := fun hmv => by
        have h1 : ¬ rank fl i < m := fun h => by have := (hl.mv i hi hmv hfi).2 h; rw [hun] at this; cases this
        rcases Nat.lt_or_ge m (rank fl i) with hlt | hge
        · exfalso
          obtain ⟨j, h2, h3, h4⟩ := of_rank hlen (Nat.le_of_lt hi) hlt
          have h5 := hF.m ho (show j < ops.size by omega) h2 h3
          rw [if_pos hmv] at h5
          rcases h5 with h5 | h5
          · rw [hfi] at h5; cases h5
          · have hlj := hbef j (by omega) h5
            cases hfj : isFl ops j with
            | true => exact hclo j ⟨by omega, hfj, hlj, by omega⟩ h4
            | false => have := (hl.mv j (by omega) h3 hfj).1 hlj; omega
        · omega
      have asd0 : ∀ j m', (m' = if (flAt fl i).mv = true then m + 1 else m) → Asd ops fl (listed.setIfInBounds i true) m' j → Asd ops fl listed m j := fun j m' hm' ⟨k1, k2, k3, k4⟩ => by
        have hji : j ≠ i := by rintro rfl; rw [hfi] at k2; cases k2
        rw [hset j k1, if_neg hji] at k3
        refine ⟨k1, k2, k3, fun h => k4 ?_⟩
        split at hm' <;> omega
      have adp : ∀ j m', j < ops.size → (m' = if (flAt fl i).mv = true then m + 1 else m) → (Adp ops fl (listed.setIfInBounds i true) m' j ↔ Adp ops fl listed m j ∨ j = i) := fun j m' hj hm' => by
        unfold Adp
        split
        · rename_i hf
          have hji : j ≠ i := by rintro rfl; rw [hfi] at hf; cases hf
          obtain ⟨oj, _, _, hoj, _⟩ := isFl_of hf
          have hmj := hF.v hoj hf
          by_cases hmi : (flAt fl i).mv = true
          · rw [if_pos hmi] at hm'
            have hmr := hmle hmi
            have hne : rank fl j ≠ rank fl i := fun e => hji (rank_inj hlen hj hi hmj hmi e)
            constructor
            · intro h; exact .inl (by omega)
            · rintro (h | h)
              · omega
              · exact absurd h hji
          · rw [if_neg hmi] at hm'
            constructor
            · intro h; exact .inl (by omega)
            · rintro (h | h)
              · omega
              · exact absurd h hji
        · rename_i hf
          rw [hset j hj]
          by_cases e : j = i
          · rw [if_pos e]; exact ⟨fun _ => .inr e, fun _ => rfl⟩
          · rw [if_neg e]; exact ⟨.inl, fun h => h.resolve_right e⟩
      have hLSP : ∀ m', (m' = if (flAt fl i).mv = true then m + 1 else m) → LSP ops fl B val env0 (listed.setIfInBounds i true) m' (putA env o.dst (val i)) := fun m' hm' => {
        size := by simp [hl.size]
        cl := hcl'
        mv := fun k hk hmk hfk => by
          rw [hset k hk]
          by_cases ek : k = i
          · subst ek
            rw [if_pos hmk] at hm'
            have := hmle hmk
            simp; omega
          · rw [if_neg ek, hl.mv k hk hmk hfk]
            by_cases hmi : (flAt fl i).mv = true
            · rw [if_pos hmi] at hm'
              have hmr := hmle hmi
              have hne : rank fl k ≠ rank fl i := fun e => ek (rank_inj hlen hk hi hmk hmi e)
              omega
            · rw [if_neg hmi] at hm'; omega
        al := fun j hj hf hr => by
          have hji : j ≠ i := by rintro rfl; rw [hfi] at hf; cases hf
          have := (adp j m' hj hm').1 (by unfold Adp; rw [if_pos hf]; exact hr)
          rcases this with h | h
          · unfold Adp at h; rw [if_pos hf] at h; rw [hset j hj, if_neg hji]; exact hl.al j hj hf h
          · exact absurd h hji
        ad := fun j k hj hk h5 h6 h7 h8 => by
          rw [hset j hj] at h8
          have : rank fl k < m := by
            by_cases e : j = i
            · subst e
              have := bound k hk h7
              unfold Adp at this; rw [if_pos h5] at this; exact this
            · rw [if_neg e] at h8; exact hl.ad j k hj hk h5 h6 h7 h8
          split at hm' <;> omega
        le := by
          by_cases hmi : (flAt fl i).mv = true
          · rw [if_pos hmi] at hm'
            have hmr := hmle hmi
            have := rank_lt (fl := fl) hi (by omega) hmi
            omega
          · rw [if_neg hmi] at hm'; have := hl.le; omega
        env := fun t ht => by
          by_cases hd : o.dst = some t
          · have e : putA env o.dst (val i) t = val i := by rw [hd]; simp [putA, upd]
            have htn : t ∈ namesT ops o := by simp [namesT, hd]
            rw [EnvT, e]
            refine ⟨fun k hk hL hdk hmax => ?_, fun hno => absurd (hdst.trans hd) (hno i hi ((adp i m' hi hm').2 (.inr rfl)))⟩
            by_cases ek : k = i
            · subst ek; rfl
            · exfalso
              have hle := hmax i hi ((adp i m' hi hm').2 (.inr rfl)) (hdst.trans hd)
              rcases hF.n ho hk htn hdk with rfl | ⟨h1, h2⟩ | ⟨h1, h2⟩
              · exact ek rfl
              · omega
              · have hlk := hlater k hk h2
                rcases (adp k m' hk hm').1 hL with h | h
                · unfold Adp at h
                  split at h
                  · rename_i hf; have := hl.al k hk hf h; rw [hlk] at this; cases this
                  · rw [hlk] at h; cases h
                · exact ek h
          · have e : putA env o.dst (val i) t = env t := by
              cases hdo : o.dst with
              | none => rfl
              | some d =>
                have : t ≠ d := by rintro rfl; exact hd hdo
                simp [putA, upd, this]
            have hdi : dstOf ops i ≠ some t := fun h => hd (hdst.symm.trans h)
            rw [EnvT, e]
            by_cases hx : ∃ j, Asd ops fl listed m j ∧ dstOf ops j = some t
            · -- then it is still kept aside
              obtain ⟨j, hj, hdj⟩ := hx
              exfalso
              obtain ⟨k1, k2, k3, k4⟩ := hj
              refine ht j ⟨k1, k2, by rw [hset j k1]; split; rfl; exact k3, fun h => ?_⟩ hdj
              have hji : j ≠ i := by rintro rfl; rw [hfi] at k2; cases k2
              have := (adp j m' k1 hm').1 (by unfold Adp; rw [if_pos k2]; exact h)
              rcases this with h | h
              · unfold Adp at h; rw [if_pos k2] at h; exact k4 h
              · exact hji h
            · obtain ⟨e1, e2⟩ := hl.env t fun j hj hdj => hx ⟨j, hj, hdj⟩
              refine ⟨fun k hk hL hdk hmax => e1 k hk ?_ hdk fun j hj hLj hdj => hmax j hj ((adp j m' hj hm').2 (.inl hLj)) hdj, fun hno => e2 fun k hk hL => hno k hk ((adp k m' hk hm').2 (.inl hL))⟩
              rcases (adp k m' hk hm').1 hL with h | h
              · exact h
              · subst h; exact absurd hdk hdi }
      have asdKeep : ∀ m' G' v' w', (m' = if (flAt fl i).mv = true then m + 1 else m) → Ext G (st m) w G' (st m') w' → AsdAll C ops fl (listed.setIfInBounds i true) m' w0 ws G' (st m') (a.put o.dst v') w' := fun m' G' v' w' hm' he => by
        obtain ⟨bl, hb1, hb2⟩ := ha
        refine ⟨bl, fun j hj => ?_, fun j k hj hk e => hb2 j k (asd0 j m' hm' hj) (asd0 k m' hm' hk) e⟩
        have hj := asd0 j m' hm' hj
        obtain ⟨d', t', o', ti', q1, q2, q3, q4, q5, q6, q7, q8, q9, q10⟩ := hb1 j hj
        have hlt := (Array.getElem?_eq_some_iff.1 q8).1
        obtain ⟨r1, r2, r3⟩ := he.keep (bl j) hlt q10
        refine ⟨d', t', o', ti', q1, q2, q3, q4, ?_, q6, q7, r1.trans q8, fun k => (r2 k).trans (q9 k), r3⟩
        cases hdo : o.dst with
        | none => exact q5
        | some d =>
          have hne : d' ≠ d := fun e => noAsd d (by simp [namesT, hdo]) j hj (by simp [dstOf, q1, q2, e])
          simp only [Act.put]
          rw [getV_set_ne (Ne.symm hne)]; exact q5
      unfold wpOpIn
      simp only [ho]
      rw [wanted_eq hrel.env (by rw [hgd]; exact hgood.g)]
      rw [hgd]
      cases hgo : goesA (guardA nt ops (envAt ops val env0 i) o) with
      | true =>
        simp only [if_true]
        have hgo' := hgood.go hgo
        have hstep : ∃ m', (m' = if (flAt fl i).mv = true then m + 1 else m) ∧ OpStep C o (ev C nt env) (st m) (val i) (st m') := by
          by_cases hmi : (flAt fl i).mv = true
          · rw [if_pos hmi] at hgo' ⊢
            have hmr := hmle hmi
            rw [← hmr] at hgo'
            exact ⟨m + 1, rfl, hgo'.congr hev⟩
          · rw [if_neg hmi] at hgo' ⊢
            refine ⟨m, rfl, (hgo' m ?_).congr hev⟩
            by_cases hp : pureOp o.op = true
            · exact .inl hp
            · refine .inr ⟨?_, ?_, hl.le⟩
              · rcases Nat.lt_or_ge (m + (flAt fl i).bk) (rank fl i) with hlt | hge
                · exfalso
                  obtain ⟨j, h2, h3, h4⟩ := of_rank hlen (Nat.le_of_lt hi) (show m < rank fl i by omega)
                  have h5 := hF.m ho (show j < ops.size by omega) h2 h3
                  rw [if_neg hmi] at h5
                  rcases h5 with h5 | h5 | h5
                  · exact hp h5
                  · have hlj := hbef j (by omega) h5
                    cases hfj : isFl ops j with
                    | true => exact hclo j ⟨by omega, hfj, hlj, by omega⟩ h4
                    | false => have := (hl.mv j (by omega) h3 hfj).1 hlj; omega
                  · omega
                · exact hge
              · rcases Nat.lt_or_ge (rank fl i + (flAt fl i).fw) m with hlt | hge
                · exfalso
                  obtain ⟨j, h2, h3, h4⟩ := of_rank hlen (Nat.le_refl _) (show rank fl i + (flAt fl i).fw < rank fl ops.size by have := hl.le; omega)
                  have hLj : listed.getD j false = true := by
                    cases hfj : isFl ops j with
                    | true => exact hl.al j h2 hfj (by omega)
                    | false => exact (hl.mv j h2 h3 hfj).2 (by omega)
                  have hij : i < j := by
                    rcases Nat.lt_or_ge i j with h | h
                    · exact h
                    · exfalso
                      rcases Nat.lt_or_eq_of_le h with h | rfl
                      · have := rank_lt (fl := fl) h (by omega) h3; omega
                      · exact hmi h3
                  have h5 := hF.f ho h2 hij h3 (by simpa using hmi)
                  rcases h5 with h5 | h5 | h5
                  · exact hp h5
                  · rw [hlater j h2 h5] at hLj; cases hLj
                  · omega
                · exact hge
        obtain ⟨m', hm', hstep⟩ := hstep
        refine hstep ro w0 G a w hrel.inv (fun x _ => hrel.env.ev hrel.inv x) _ _ fun G' v' w' hr hi' he => ?_
        obtain ⟨m2, env2, G2, k1, k2, k3, k4, k5⟩ := adopt_all hF hlen good _ m' _ G' (Nat.le_refl _) (hLSP m' hm') (asdKeep m' G' v' w' hm' he) ⟨hi', (hrel.env.mono he.le).put hr o.dst⟩ (hext.trans he)
        exact ih _ env2 m2 G2 _ _ hcnt k1 k2 k3 k4 k5 (by rw [← hdf]; cases o.dst <;> rfl)
      | false =>
        simp only [Bool.false_eq_true, if_false]
        refine ⟨fun _ _ => trivial, ?_⟩
        obtain ⟨hv, hs⟩ := hgood.no hgo
        have hst : ∃ m', (m' = if (flAt fl i).mv = true then m + 1 else m) ∧ st m' = st m := by
          by_cases hmi : (flAt fl i).mv = true
          · rw [if_pos hmi]
            have hmr := hmle hmi
            exact ⟨_, rfl, by rw [hmr]; exact hs hmi⟩
          · rw [if_neg hmi]; exact ⟨_, rfl, rfl⟩
        obtain ⟨m', hm', hsm⟩ := hst
        have he : Ext G (st m) w G (st m') w := by rw [hsm]; exact .refl _ _ _
        obtain ⟨m2, env2, G2, k1, k2, k3, k4, k5⟩ := adopt_all hF hlen good _ m' _ G (Nat.le_refl _) (hLSP m' hm') (asdKeep m' G Go.undef w hm' he) ⟨by rw [hsm]; exact hrel.inv, by rw [hv]; exact hrel.env.put (rep_skp G) o.dst⟩ (hext.trans he)
        exact ih _ env2 m2 G2 _ _ hcnt k1 k2 k3 k4 k5 (by rw [← hdf]; cases o.dst <;> rfl)

def fits (ops : Array Oper) (nt : Nat) : Bool := (List.range ops.size).all fun i => match ops[i]? with | some o => (match o.dst with | some d => decide (d < nt) | none => true) | none => true

theorem codeS_drawF {ro : Option Nat} {id : Nat} {env : Env} (hm : C.P.follows .mixedOrders = true) (hF : ChkF ops fl B) (hft : fits ops nt = true) (hlen : fl.length = ops.size)
    (good : ∀ i o, ops[i]? = some o → Good C nt ops fl val st env i o) : CodeS C ro nt (.region id ops true) env (st 0) .normal (envAt ops val env ops.size) (st (rank fl ops.size)) := by
  intro w0 G a w hrel cr hcr
  have hi' : Inv C.gl w0 G (st 0) { w with drawn := w.drawn + 1 } := hrel.inv.heap rfl rfl rfl rfl
  refine wpIn_region_any hm ?_
  have hnt : ∀ i o d, isFl ops i = true → ops[i]? = some o → o.dst = some d → d < nt := fun i o d hf ho hd => by
    have h1 := List.all_eq_true.1 hft i (List.mem_range.2 (Array.getElem?_eq_some_iff.1 ho).1)
    rw [ho] at h1
    simp only [hd, decide_eq_true_eq] at h1
    exact h1
  have none0 : ∀ i, Asd ops fl (Array.replicate ops.size false) 0 i → False := fun i hi => by
    obtain ⟨h1, _, h3, _⟩ := hi
    simp [Array.getD_eq_getD_getElem?, h1] at h3
  refine anyF (ws := w) (G0 := G) (σ0 := st 0) (df := a.defers) hF hlen good hrel.inv.base_le hnt (fun G' a' w' h1 h2 h3 => ⟨rfl, G', [], h1, h2, by simpa using h3, Marks.nil⟩) ops.size _ env 0 G a _ ?_ ?_ ?_ ?_ ⟨hi', hrel.env⟩ (.heap G _ rfl) rfl
  · have := List.countP_le_length (p := fun i => !(Array.replicate ops.size false).getD i false) (l := List.range ops.size)
    simpa using this
  · have noA : ∀ i, i < ops.size → ¬ Adp ops fl (Array.replicate ops.size false) 0 i := fun i hi h => by
      unfold Adp at h
      split at h
      · omega
      · simp [Array.getD_eq_getD_getElem?, hi] at h
    exact {
      size := by simp
      cl := fun j i hj hi hL => by simp [Array.getD_eq_getD_getElem?, hj] at hL
      mv := fun i hi hmv _ => by simp [Array.getD_eq_getD_getElem?, hi]
      al := fun i hi _ h => by omega
      ad := fun j i hj hi _ _ _ hL => by simp [Array.getD_eq_getD_getElem?, hj] at hL
      le := Nat.zero_le _
      env := fun t _ => ⟨fun i hi hL => absurd hL (noA i hi), fun _ => rfl⟩ }
  · exact fun i hi => (none0 i hi).elim
  · exact ⟨fun _ => 0, fun i hi => (none0 i hi).elim, fun i j hi => (none0 i hi).elim⟩

theorem WK.drawF {ro : Option Nat} {Q : Exit → Env → Sto → Prop} {env : Env} {σ : Sto} {id : Nat} (fl : List DF) (hm : C.P.follows .mixedOrders = true) (h : (chkF ops fl (Region.before ops).toList && fits ops nt) = true)
    (hw : wpD C nt (fun env σ => Q .normal env σ) ((ops.toList.map (roOf ops)).zip fl) [] [] env σ) : WK C ro nt (.oth (.region id ops true)) Q env σ := by
  intro c hc
  have hc' : c = .region id ops true := by
    cases c with
    | region id' ops' d => cases d with
      | false => cases hc
      | true => simp only [toK, K.oth.injEq] at hc; exact hc
    | goto l => simp only [toK, K.oth.injEq] at hc; exact hc
    | _ => first | (cases hc; done) | (simp only [toK, K.oth.injEq] at hc; exact hc)
  subst hc'
  rw [Bool.and_eq_true] at h
  have hlen : fl.length = ops.size := by
    have := h.1
    simp only [chkF, Bool.and_eq_true, beq_iff_eq] at this; exact this.1
  obtain ⟨st', val', h1, h2, _, h4, h5⟩ := wpD_sound (C := C) (nt := nt) (K := fun env σ => Q .normal env σ) (env0 := env) hlen ops.toList fl 0 [] [] env σ (fun _ => σ) (fun _ => .undef) rfl rfl rfl rfl (fun q hq => by simp [rank] at hq) (Nat.zero_le _) hw
  have hs0 : st' 0 = σ := h1 0 (Nat.zero_le _)
  have := codeS_drawF (ro := ro) (id := id) (env := env) hm (chkF_of h.1) h.2 hlen (fun i o ho => h4 i o (Nat.zero_le _) ho)
  rw [hs0] at this
  exact ⟨_, _, _, this, h5⟩
end
theorem leL.trans : ∀ {a b c : List AV}, leL a b → leL b c → leL a c
  | [], [], [], _, _ => trivial
  | x :: a, y :: b, z :: c, h, k => ⟨h.1.trans k.1, leL.trans h.2 k.2⟩
/-- What a box holds may be told less exactly first. -/
theorem Cut.less {σ σ' σ1 : Sto} (id : Nat) {cs : List AV} (ds : List AV) (hs : σ'.get id = some (.box cs)) (hle : leL cs ds) (h : Cut σ (σ'.set id (.box ds)) σ1) : Cut σ σ' σ1 where
  n1 := h.n1
  n2 := h.n2
  hi := h.hi
  lo := fun i o hi ho => by
    obtain ⟨⟨o', h1, h2⟩, h3⟩ := h.lo i o hi ho
    refine ⟨?_, h3⟩
    simp only [Sto.get_set] at h1
    by_cases e : i = id
    · subst e
      rw [if_pos rfl] at h1
      cases h1
      refine ⟨_, hs, ?_⟩
      rcases h2 with rfl | ⟨cs', ds', h4, rfl, h5⟩
      · exact .inr ⟨_, _, rfl, rfl, hle⟩
      · cases h4; exact .inr ⟨_, _, rfl, rfl, hle.trans h5⟩
    · rw [if_neg e] at h1
      exact ⟨o', h1, h2⟩
end Go.Lg
