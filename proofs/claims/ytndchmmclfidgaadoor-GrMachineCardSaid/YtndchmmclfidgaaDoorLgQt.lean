/- Lg, part Qu: a row that grows while other objects keep their numbers (stacks and queues). -/
import Derived.Test.YtndchmmclfidgaaDoorLgRy
import Derived.Test.YtndchmmclfidgaaDoorLgAw
set_option linter.unusedVariables false
set_option linter.unusedSimpArgs false
namespace Go.Lg
open Go.RowKit
def quA (B c off : Nat) (q0 : List AV) (n : Nat) : AV := if c = 0 then .list true (q0.drop off) else .row (B + c - 1) off n
def Sto.stk (σ : Sto) (c es : Nat) (xs : List AV) : Sto := if c = 0 then σ else ⟨fun i => if i = σ.next + c - 1 then some (.row es xs false) else σ.get i, σ.next + c⟩
theorem quA_0 (B off : Nat) (q0 : List AV) (n : Nat) : quA B 0 off q0 n = .list true (q0.drop off) := if_pos rfl
theorem quA_s (B c off : Nat) (q0 : List AV) (n : Nat) : quA B (c + 1) off q0 n = .row (B + c) off n := by unfold quA; rw [if_neg (by omega)]; congr 1
theorem stk_0 (σ : Sto) (es : Nat) (xs : List AV) : σ.stk 0 es xs = σ := if_pos rfl
theorem stk_s (σ : Sto) (c es : Nat) (xs : List AV) : σ.stk (c + 1) es xs = ⟨fun i => if i = σ.next + c then some (.row es xs false) else σ.get i, σ.next + c + 1⟩ := by
  unfold Sto.stk; rw [if_neg (by omega)]; rfl
theorem stk_next (σ : Sto) (c es : Nat) (xs : List AV) : (σ.stk c es xs).next = σ.next + c := by
  unfold Sto.stk; split
  · rename_i h; rw [h]; rfl
  · rfl
theorem stk_get {σ : Sto} {c es : Nat} {xs : List AV} {i : Nat} (h : i < σ.next) : (σ.stk c es xs).get i = σ.get i := by
  unfold Sto.stk; split
  · rfl
  · rename_i hc; show (if i = σ.next + c - 1 then _ else _) = _; rw [if_neg (by omega)]
theorem stk_row {σ : Sto} {c es : Nat} {xs : List AV} : (σ.stk (c + 1) es xs).get (σ.next + c) = some (.row es xs false) := by
  rw [stk_s]; exact if_pos rfl
theorem Sto.eta2 {g h : Nat → Option AObj} {n m : Nat} (e1 : ∀ i, g i = h i) (e2 : n = m) : (⟨g, n⟩ : Sto) = ⟨h, m⟩ := by rw [funext e1, e2]
theorem stk_set {σ : Sto} {c es : Nat} {xs : List AV} {i : Nat} {o : AObj} (h : i < σ.next) : (σ.stk c es xs).set i o = (σ.set i o).stk c es xs := by
  cases c with
  | zero => rw [stk_0, stk_0]
  | succ c =>
    rw [stk_s, stk_s]
    refine Sto.eta2 (fun j => ?_) rfl
    show (if j = i then some o else if j = σ.next + c then some (AObj.row es xs false) else σ.get j) = if j = σ.next + c then some (AObj.row es xs false) else if j = i then some o else σ.get j
    by_cases e : j = i
    · rw [if_pos e, if_neg (by omega), if_pos e]
    · rw [if_neg e, if_neg e]
theorem stk_setrow {σ : Sto} {c es : Nat} {xs ys : List AV} : (σ.stk (c + 1) es xs).set (σ.next + c) (.row es ys false) = σ.stk (c + 1) es ys := by
  rw [stk_s, stk_s]
  refine Sto.eta2 (fun j => ?_) rfl
  show (if j = σ.next + c then some (AObj.row es ys false) else if j = σ.next + c then some (AObj.row es xs false) else σ.get j) = _
  by_cases e : j = σ.next + c
  · rw [if_pos e, if_pos e]
  · rw [if_neg e, if_neg e, if_neg e]
def Sto.Top (σ : Sto) : Prop := ∀ i, σ.next ≤ i → σ.get i = Option.none
theorem top_none : Sto.none.Top := fun _ _ => rfl
theorem top_add {σ : Sto} {o : AObj} (h : σ.Top) : (σ.add o).Top := fun i hi => by
  have hi : σ.next + 1 ≤ i := hi
  rw [Sto.get_add, if_neg (by omega)]; exact h i (by omega)
theorem top_set {σ : Sto} {id : Nat} {o : AObj} (h : σ.Top) (hl : id < σ.next) : (σ.set id o).Top := fun i hi => by
  have hi : σ.next ≤ i := hi
  rw [Sto.get_set, if_neg (by omega)]; exact h i hi
theorem appK_qu {C : Cx} {nt : Nat} {d : Option Nat} {rs : List RO} {K : Env → Sto → Prop} {env : Env} {σ : Sto} {s x : Operand} {t t2 : TypeId} {ei : TyI} {c off es : Nat} {q0 xs ys : List AV} {f : Bool}
    (hs : slE C t = some ei) (he : es = ei.size) (hv : ev C nt env s = quA σ.next c off q0 (xs.length - off)) (ht : σ.Top) (hoff : off ≤ xs.length) (h0 : c = 0 → xs = q0) (hok : OKEs ei.size xs)
    (hx : (ev C nt env x).fz = .list f ys) (ht2 : (slE C t2).isSome = true) (hy : OKEs ei.size ys) (hne : ys ≠ [])
    (hz : ei.zero.cells.size = ei.size) (hb : (xs.length - off + ys.length) * ei.bytes ≤ 140737488355328) (hb2 : xs.length - off + ys.length ≤ 9223372036854775807)
    (hk : wpr C nt rs K (putA env d (quA σ.next (c + 1) 0 q0 (xs.length - off + ys.length))) (σ.stk (c + 1) es (xs.drop off ++ ys))) : appK C nt d #[s, x] #[t, t2] rs K env (σ.stk c es xs) := by
  subst he
  cases c with
  | zero =>
    obtain rfl := h0 rfl
    rw [stk_0]
    rw [quA_0] at hv
    refine appK_row (f := f) hs hv (fun y hy => hok y (List.mem_of_mem_drop hy)) hx ht2 hy hne hz (by rw [List.length_drop]; exact hb) (by rw [List.length_drop]; exact hb2) ?_
    rw [quA_s, stk_s] at hk
    rw [List.length_drop]
    exact hk
  | succ c =>
    rw [quA_s] at hv
    have hsrc : ∀ τ, (srcA C τ t2 ei.size (ev C nt env x)).1 ∧ (srcA C τ t2 ei.size (ev C nt env x)).2 = ys := fun τ => by
      generalize ev C nt env x = v at hx
      cases v with
      | own id' zs => simp only [AV.fz, AV.list.injEq] at hx; obtain ⟨_, rfl⟩ := hx; exact srcA_own ht2 hy
      | list f' zs => simp only [AV.fz, AV.list.injEq] at hx; obtain ⟨_, rfl⟩ := hx; exact srcA_list ht2 hy
      | _ => simp [AV.fz] at hx
    refine appK_aop ?_
    have e : aop C (ev C nt env) (σ.stk (c + 1) ei.size xs) (.call ⟨.builtin .append, #[s, x], #[t, t2]⟩) = appA C (σ.stk (c + 1) ei.size xs) t2 ei (ev C nt env s) (ev C nt env x) := by
      show (match slE C t with | some ei => appA C _ t2 ei (ev C nt env s) (ev C nt env x) | none => bad _) = _
      rw [hs]
    rw [e, hv]
    simp only [appA, stk_row, (hsrc (σ.stk (c + 1) ei.size xs)).2]
    refine ⟨⟨(hsrc _).1, by omega, trivial, fun y hy => (hok y hy).2, hz, hb, hb2⟩, ?_⟩
    have e2 : ((σ.stk (c + 1) ei.size xs).del (σ.next + c)).add (.row ei.size (xs.drop off ++ ys) false) = σ.stk (c + 1 + 1) ei.size (xs.drop off ++ ys) := by
      rw [stk_s, stk_s]
      refine Sto.eta2 (fun i => ?_) (by show σ.next + c + 1 + 1 = _; omega)
      show (if i = σ.next + c + 1 then some _ else if i = σ.next + c then Option.none else if i = σ.next + c then some _ else σ.get i) = if i = σ.next + (c + 1) then some _ else σ.get i
      by_cases e1 : i = σ.next + c + 1
      · rw [if_pos e1, if_pos (show i = σ.next + (c + 1) by omega)]
      · rw [if_neg e1, if_neg (show ¬ i = σ.next + (c + 1) by omega)]
        by_cases e2 : i = σ.next + c
        · rw [if_pos e2]; exact (ht i (by omega)).symm
        · rw [if_neg e2, if_neg e2]
    rw [e2, stk_next]
    rw [quA_s] at hk
    exact hk
theorem cut_stk {base base' σ' : Sto} {c c' es : Nat} {xs xs' : List AV} (hn : base'.next = base.next) (hc : c ≤ c') (ht : base'.Top) (h1 : base.next + c' ≤ σ'.next)
    (h2 : ∀ i, i < base.next + c' → σ'.get i = (base'.stk c' es xs').get i) (hb : ∀ i o, i < base.next → base'.get i = some o → base.get i = some o ∨ BelO (base.next + c') o) (hx : ∀ m, BelE m xs') :
    Cut (base.stk c es xs) σ' (base'.stk c' es xs') := by
  refine Cut.by' (by rw [stk_next, stk_next, hn]; omega) (by rw [stk_next, hn]; exact h1) (fun i hi => .inl ?_) fun i o hi ho => ?_
  · rw [stk_next, hn] at hi
    cases c' with
    | zero => rw [stk_0]; exact ht i (by rw [hn]; omega)
    | succ c' =>
      rw [stk_s]
      show (if i = base'.next + c' then _ else _) = _
      rw [if_neg (by omega)]; exact ht i (by omega)
  · rw [stk_next, hn] at hi
    refine ⟨(h2 i hi).trans ho, ?_⟩
    rw [stk_next, hn]
    by_cases hlt : i < base.next
    · rw [stk_get (by omega)] at ho
      rw [stk_get hlt]
      exact hb i o hlt ho
    · right
      cases c' with
      | zero => rw [stk_0] at ho; omega
      | succ c' =>
        rw [stk_s] at ho
        have ho : (if i = base'.next + c' then some (AObj.row es xs' false) else base'.get i) = some o := ho
        split at ho
        · cases ho; exact hx _
        · rw [ht i (by omega)] at ho; cases ho
def Sto.bump (σ : Sto) : Sto := ⟨σ.get, σ.next + 1⟩
theorem bump_next (σ : Sto) : σ.bump.next = σ.next + 1 := (rfl)
theorem bump_get (σ : Sto) (i : Nat) : σ.bump.get i = σ.get i := (rfl)
theorem WK.bump {C : Cx} {ro : Option Nat} {nt : Nat} {k : K} {Q : Exit → Env → Sto → Prop} {env : Env} {σ τ : Sto} (hn : τ.next = σ.next + 1) (hg : ∀ i o, σ.get i = some o → τ.get i = some o)
    (h : WK C ro nt k Q env σ.bump) : WK C ro nt k Q env τ := WK.less (σ1 := σ.bump) (fun t => .refl _) ⟨hn.symm, fun i o hi => .inl (hg i o hi)⟩ h
theorem stk_top {σ : Sto} {c es : Nat} {xs : List AV} (h : σ.Top) : (σ.stk c es xs).Top := fun i hi => by
  rw [stk_next] at hi
  cases c with
  | zero => rw [stk_0]; exact h i hi
  | succ c =>
    rw [stk_s]
    show (if i = σ.next + c then _ else _) = _
    rw [if_neg (by omega)]; exact h i (by omega)
theorem appK_qb {C : Cx} {nt : Nat} {d : Option Nat} {rs : List RO} {K : Env → Sto → Prop} {env : Env} {σ : Sto} {s x : Operand} {t t2 : TypeId} {ei : TyI} {c es : Nat} {xs ys : List AV} {f : Bool}
    (hs : slE C t = some ei) (he : es = ei.size) (hv : ev C nt env s = quA σ.next c 0 [] xs.length) (ht : σ.Top) (h0 : c = 0 → xs = []) (hok : OKEs ei.size xs)
    (hx : (ev C nt env x).fz = .list f ys) (ht2 : (slE C t2).isSome = true) (hy : OKEs ei.size ys) (hne : ys ≠ [])
    (hz : ei.zero.cells.size = ei.size) (hb : (xs.length + ys.length) * ei.bytes ≤ 140737488355328) (hb2 : xs.length + ys.length ≤ 9223372036854775807)
    (hk : wpr C nt rs K (putA env d (quA σ.next (c + 2) 0 [] (xs.length + ys.length))) (σ.stk (c + 2) es (xs ++ ys))) : appK C nt d #[s, x] #[t, t2] rs K env (σ.stk c es xs).bump := by
  subst he
  cases c with
  | zero =>
    obtain rfl := h0 rfl
    rw [stk_0]
    rw [quA_0] at hv
    refine appK_row (f := f) hs hv hok hx ht2 hy hne hz hb hb2 ?_
    rw [quA_s, stk_s] at hk
    exact hk
  | succ c =>
    rw [quA_s] at hv
    have hsrc : ∀ τ, (srcA C τ t2 ei.size (ev C nt env x)).1 ∧ (srcA C τ t2 ei.size (ev C nt env x)).2 = ys := fun τ => by
      generalize ev C nt env x = v at hx
      cases v with
      | own id' zs => simp only [AV.fz, AV.list.injEq] at hx; obtain ⟨_, rfl⟩ := hx; exact srcA_own ht2 hy
      | list f' zs => simp only [AV.fz, AV.list.injEq] at hx; obtain ⟨_, rfl⟩ := hx; exact srcA_list ht2 hy
      | _ => simp [AV.fz] at hx
    refine appK_aop ?_
    have e : aop C (ev C nt env) (σ.stk (c + 1) ei.size xs).bump (.call ⟨.builtin .append, #[s, x], #[t, t2]⟩) = appA C (σ.stk (c + 1) ei.size xs).bump t2 ei (ev C nt env s) (ev C nt env x) := by
      show (match slE C t with | some ei => appA C _ t2 ei (ev C nt env s) (ev C nt env x) | none => bad _) = _
      rw [hs]
    rw [e, hv]
    simp only [appA, bump_get, stk_row, (hsrc (σ.stk (c + 1) ei.size xs).bump).2, List.drop_zero]
    refine ⟨⟨(hsrc _).1, by omega, trivial, fun y hy => (hok y hy).2, hz, hb, hb2⟩, ?_⟩
    have e2 : ((σ.stk (c + 1) ei.size xs).bump.del (σ.next + c)).add (.row ei.size (xs ++ ys) false) = σ.stk (c + 1 + 2) ei.size (xs ++ ys) := by
      rw [stk_s, stk_s]
      refine Sto.eta2 (fun i => ?_) (by show σ.next + c + 1 + 1 + 1 = _; omega)
      show (if i = σ.next + c + 1 + 1 then some _ else if i = σ.next + c then Option.none else if i = σ.next + c then some _ else σ.get i) = if i = σ.next + (c + 2) then some _ else σ.get i
      by_cases e1 : i = σ.next + c + 1 + 1
      · rw [if_pos e1, if_pos (show i = σ.next + (c + 2) by omega)]
      · rw [if_neg e1, if_neg (show ¬ i = σ.next + (c + 2) by omega)]
        by_cases e2 : i = σ.next + c
        · rw [if_pos e2]; exact (ht i (by omega)).symm
        · rw [if_neg e2, if_neg e2]
    rw [e2, bump_next, stk_next]
    rw [quA_s] at hk
    exact hk
end Go.Lg
/- Lg, part Qt: a row of empty lists, each of which is appended to under a number of its own. -/
namespace Go.Lg
open Go.RowKit
theorem WK.ownElem {C : Cx} {ro : Option Nat} {nt : Nat} {k : K} {Q : Exit → Env → Sto → Prop} {env : Env} {σ : Sto} (id j es : Nat) {xs : List AV} (hs : σ.get id = some (.row 1 xs false)) (ht : xs[j]? = some (.list true []))
    (h : WK C ro nt k Q env ((σ.add (.tok es 0)).set id (.row 1 (xs.set j (.own σ.next [])) false))) : WK C ro nt k Q env σ := by
  intro c hc
  obtain ⟨e, env', σ', h1, h2⟩ := h c hc
  refine ⟨e, env', σ', fun w0 G a w hr cr hcr => ?_, h2⟩
  obtain ⟨B, hB⟩ := hr.inv.has id _ hs (fun es n e => by cases e)
  obtain ⟨hb, vs, ty, g1, g2, g3, g4, g5, g6, g7⟩ := hr.inv.obj id _ B hs hB
  obtain ⟨v, hv, hrv⟩ := g6 j _ 0 _ ht (by rfl : (AV.list true []).cells[0]? = some (.list true []))
  obtain ⟨G', k1, k2, k3, k4⟩ := own_new hr.inv hrv es
  have hlt := hr.inv.live id _ hs
  have hne : id ≠ σ.next := by omega
  have hs' : (σ.add (.tok es 0)).get id = some (.row 1 xs false) := by simp only [Sto.get_add]; rw [if_neg hne]; exact hs
  have hB' := k1.j _ _ hB
  obtain ⟨hb', vs', ty', q1, q2, q3, q4, q5, q6, q7⟩ := k3.obj id _ B hs' hB'
  have hok : ObjOK G' B w (.row 1 (xs.set j (.own σ.next [])) false) := by
    refine ⟨vs', ty', q1, q2, q3, by rw [List.length_set]; exact q4, fun i x hx => ?_, fun i x k c hx hc => ?_, fun k hk => ?_⟩
    · rw [List.getElem?_set] at hx
      split at hx
      · split at hx
        · cases hx; rfl
        · cases hx
      · exact q5 i x hx
    · rw [List.getElem?_set] at hx
      split at hx
      · rename_i e
        subst e
        split at hx
        · cases hx
          have hk0 : k = 0 := by
            have := (List.getElem?_eq_some_iff.1 hc).1
            simp [AV.cells] at this; exact this
          subst hk0
          cases hc
          rw [q1] at g1; cases g1
          exact ⟨v, hv, k2⟩
        · cases hx
      · exact q6 i x k c hx hc
    · have := q7 k hk
      simp only [Bool.false_eq_true, false_and, if_false] at this ⊢
      exact this
  have hI : ∀ k v, G'.I B.b k = some v → B.o0 ≤ k → False := fun k v hI hk => by
    have := q7 k hk
    simp only [Bool.false_eq_true, false_and, if_false] at this
    rw [this] at hI; cases hI
  have i2 := Inv.set k3 id _ _ B hs' hB' rfl rfl rfl rfl (fun _ _ => rfl) (fun k v hk => k3.imm _ _ _ hk) hok
  have x2 : Ext G' (σ.add (.tok es 0)) w G' ((σ.add (.tok es 0)).set id (.row 1 (xs.set j (.own σ.next [])) false)) w := .set id _ _ B hs' hB' rfl (fun _ _ => rfl)
  refine wpIn_mono (h1 w0 G' a w ⟨i2, hr.env.size, fun u hu => (hr.env.rep u hu).mono k1⟩ cr (hcr.mono k1)) fun e2 a' w' hp => ?_
  obtain ⟨g1, G2, ms, g2, g3, g4⟩ := hp
  exact ⟨g1, G2, ms, g2, (k4.trans x2).trans g3, g4⟩
def Sto.toks (σ : Sto) (es n : Nat) (f : Nat → Nat) : Sto := ⟨fun i => if σ.next ≤ i ∧ i < σ.next + n then some (.tok es (f (i - σ.next))) else σ.get i, σ.next + n⟩
theorem toks_next (σ : Sto) (es n : Nat) (f : Nat → Nat) : (σ.toks es n f).next = σ.next + n := (rfl)
theorem toks_lo {σ : Sto} {es n : Nat} {f : Nat → Nat} {i : Nat} (h : i < σ.next) : (σ.toks es n f).get i = σ.get i := if_neg (by omega)
theorem toks_at {σ : Sto} {es n : Nat} {f : Nat → Nat} {j : Nat} (h : j < n) : (σ.toks es n f).get (σ.next + j) = some (.tok es (f j)) := by
  show (if σ.next ≤ σ.next + j ∧ σ.next + j < σ.next + n then _ else _) = _
  rw [if_pos ⟨by omega, by omega⟩, Nat.add_sub_cancel_left]
theorem toks_set {σ : Sto} {es n : Nat} {f : Nat → Nat} {j m : Nat} (h : j < n) : (σ.toks es n f).set (σ.next + j) (.tok es m) = σ.toks es n (fun i => if i = j then m else f i) := by
  refine Sto.eta2 (fun i => ?_) rfl
  show (if i = σ.next + j then some (AObj.tok es m) else if σ.next ≤ i ∧ i < σ.next + n then some (.tok es (f (i - σ.next))) else σ.get i) = if σ.next ≤ i ∧ i < σ.next + n then some (.tok es (if i - σ.next = j then m else f (i - σ.next))) else σ.get i
  by_cases e : i = σ.next + j
  · rw [if_pos e, if_pos (show σ.next ≤ i ∧ i < σ.next + n by omega), if_pos (show i - σ.next = j by omega)]
  · rw [if_neg e]
    by_cases e2 : σ.next ≤ i ∧ i < σ.next + n
    · rw [if_pos e2, if_pos e2, if_neg (show ¬ i - σ.next = j by omega)]
    · rw [if_neg e2, if_neg e2]
theorem toks_setlo {σ : Sto} {es n : Nat} {f : Nat → Nat} {id : Nat} {o : AObj} (h : id < σ.next) : (σ.toks es n f).set id o = (σ.set id o).toks es n f := by
  refine Sto.eta2 (fun i => ?_) rfl
  show (if i = id then some o else if σ.next ≤ i ∧ i < σ.next + n then some (.tok es (f (i - σ.next))) else σ.get i) = if σ.next ≤ i ∧ i < σ.next + n then some (.tok es (f (i - σ.next))) else if i = id then some o else σ.get i
  by_cases e : i = id
  · rw [if_pos e, if_neg (show ¬ (σ.next ≤ i ∧ i < σ.next + n) by omega), if_pos e]
  · rw [if_neg e, if_neg e]
theorem toks_succ {σ : Sto} {es n : Nat} {f : Nat → Nat} : (σ.toks es n f).add (.tok es (f n)) = σ.toks es (n + 1) f := by
  refine Sto.eta2 (fun i => ?_) rfl
  show (if i = σ.next + n then some (AObj.tok es (f n)) else if σ.next ≤ i ∧ i < σ.next + n then some (.tok es (f (i - σ.next))) else σ.get i) = if σ.next ≤ i ∧ i < σ.next + (n + 1) then some (.tok es (f (i - σ.next))) else σ.get i
  by_cases e : i = σ.next + n
  · rw [if_pos e, if_pos (show σ.next ≤ i ∧ i < σ.next + (n + 1) by omega), show i - σ.next = n by omega]
  · rw [if_neg e]
    by_cases e2 : σ.next ≤ i ∧ i < σ.next + n
    · rw [if_pos e2, if_pos (show σ.next ≤ i ∧ i < σ.next + (n + 1) by omega)]
    · rw [if_neg e2, if_neg (show ¬ (σ.next ≤ i ∧ i < σ.next + (n + 1)) by omega)]
theorem toks_zero (σ : Sto) (es : Nat) (f : Nat → Nat) : σ.toks es 0 f = σ := Sto.eta2 (fun i => if_neg (by omega)) rfl
theorem top_toks {σ : Sto} {es n : Nat} {f : Nat → Nat} (h : σ.Top) : (σ.toks es n f).Top := fun i hi => by
  rw [toks_next] at hi
  show (if σ.next ≤ i ∧ i < σ.next + n then _ else _) = _
  rw [if_neg (by omega)]; exact h i (by omega)
def ownsL (B n : Nat) (A : Nat → List AV) : List AV := (List.range n).map fun j => .own (B + j) (A j)
theorem owns_len (B n : Nat) (A : Nat → List AV) : (ownsL B n A).length = n := by simp [ownsL]
theorem owns_get {B n : Nat} {A : Nat → List AV} {j : Nat} (h : j < n) : (ownsL B n A).getD j .undef = .own (B + j) (A j) := by
  unfold ownsL; rw [List.getD_eq_getElem?_getD, List.getElem?_map, List.getElem?_range h]; rfl
theorem owns_set {B n : Nat} {A : Nat → List AV} {j : Nat} (h : j < n) (ys : List AV) : (ownsL B n A).set j (.own (B + j) ys) = ownsL B n (fun i => if i = j then ys else A i) := by
  unfold ownsL
  refine List.ext_getElem? fun i => ?_
  rw [List.getElem?_set, List.getElem?_map, List.getElem?_map]
  by_cases hi : i < n
  · rw [List.getElem?_range hi]
    by_cases e : j = i
    · subst e; rw [if_pos rfl, if_pos (by simpa using h)]; simp
    · rw [if_neg e]; simp [Ne.symm e]
  · rw [List.getElem?_eq_none (by simp; omega)]
    rw [if_neg (by omega)]; rfl
theorem WK.ownAll {C : Cx} {ro : Option Nat} {nt : Nat} {k : K} {Q : Exit → Env → Sto → Prop} {env : Env} {σ : Sto} (id es n : Nat) (hs : σ.get id = some (.row 1 (List.replicate n (.list true [])) false)) (hl : id < σ.next)
    (h : WK C ro nt k Q env ((σ.set id (.row 1 (ownsL σ.next n fun _ => []) false)).toks es n fun _ => 0)) : WK C ro nt k Q env σ := by
  have key : ∀ m, m ≤ n → WK C ro nt k Q env ((σ.set id (.row 1 ((List.range m).map (fun j => AV.own (σ.next + j) []) ++ List.replicate (n - m) (.list true [])) false)).toks es m fun _ => 0) → WK C ro nt k Q env σ := by
    intro m
    induction m with
    | zero =>
      intro _ h
      rw [toks_zero] at h
      have e : σ.set id (.row 1 ((List.range 0).map (fun j => AV.own (σ.next + j) []) ++ List.replicate (n - 0) (.list true [])) false) = σ := by
        refine Sto.eta2 (h := σ.get) (fun i => ?_) rfl
        show (if i = id then _ else _) = _
        split
        · rename_i e; rw [e, hs]; simp
        · rfl
      rw [e] at h
      exact h
    | succ m ih =>
      intro hm h
      refine ih (by omega) ?_
      have hnx : ((σ.set id (.row 1 ((List.range m).map (fun j => AV.own (σ.next + j) []) ++ List.replicate (n - m) (.list true [])) false)).toks es m fun _ => 0).next = σ.next + m := rfl
      refine WK.ownElem id m es (xs := (List.range m).map (fun j => AV.own (σ.next + j) []) ++ List.replicate (n - m) (.list true [])) (by rw [toks_lo (show id < (σ.set id _).next from hl)]; exact if_pos rfl) (by
        have hlm : ((List.range m).map fun j => AV.own (σ.next + j) []).length = m := by simp
        rw [List.getElem?_append_right (by rw [hlm]; exact Nat.le_refl _), hlm, Nat.sub_self, show n - m = n - (m + 1) + 1 by omega]; rfl) ?_
      rw [hnx]
      have e : ((List.range m).map (fun j => AV.own (σ.next + j) []) ++ List.replicate (n - m) (AV.list true [])).set m (.own (σ.next + m) []) = (List.range (m + 1)).map (fun j => AV.own (σ.next + j) []) ++ List.replicate (n - (m + 1)) (AV.list true []) := by
        rw [List.set_append_right _ _ (by simp)]
        rw [List.length_map, List.length_range, Nat.sub_self, show n - m = n - (m + 1) + 1 by omega, List.replicate_succ, List.set_cons_zero, List.range_succ, List.map_append, List.append_assoc]; rfl
      rw [e, show (AObj.tok es 0) = AObj.tok es ((fun _ => 0 : Nat → Nat) m) from rfl, toks_succ, toks_setlo (show id < (σ.set id _).next from hl)]
      have e2 : ∀ o o', (σ.set id o).set id o' = σ.set id o' := fun o o' => by
        refine Sto.eta2 (fun i => ?_) rfl
        show (if i = id then some o' else if i = id then some o else σ.get i) = if i = id then some o' else σ.get i
        split <;> rfl
      rw [e2]
      exact h
  refine key n (Nat.le_refl _) ?_
  rw [Nat.sub_self, List.replicate_zero, List.append_nil]
  exact h
end Go.Lg
