/- Lg, part B: the operations that call nothing: what each does to abstract values, and that the model does it. -/
import Derived.Test.YtndchmmclfidgaaDoorLgA
import Derived.Laws.AppendOwn
import Derived.Laws.CopyRow
import Derived.Laws.Entries
set_option linter.unusedVariables false
set_option linter.unusedSimpArgs false
namespace Go.Lg
open Go.RowKit

/-- What is asked of a type. -/
structure TyI where
  desc : TypeDesc
  size : Nat
  bytes : Nat
  zero : Value

structure Cx where
  P : Program
  gl : Nat → List AV
  ty : TypeId → Option TyI
  ok : ∀ t i, ty t = some i → P.underlying t = some i.desc ∧ ∃ r, P.info? t = some r ∧ r.size = i.size ∧ r.bytes = i.bytes ∧ r.zero = some i.zero
  glc : ∀ g c, c ∈ gl g → Closed c

section
variable {C : Cx} {t : TypeId} {i : TyI}
theorem Cx.run_und (h : C.ty t = some i) (w : World) : (underlying t).run C.P w = .ok i.desc w := run_underlying (C.ok t i h).1 w
theorem Cx.run_size (h : C.ty t = some i) (w : World) : (sizeOf t).run C.P w = .ok i.size w := by
  obtain ⟨_, r, h1, h2, _⟩ := C.ok t i h
  simp [sizeOf, typeInfo, h1, h2]
theorem Cx.run_zero (h : C.ty t = some i) (w : World) : (zeroValue t).run C.P w = .ok i.zero w := by
  obtain ⟨_, r, h1, h2, h3, h4⟩ := C.ok t i h
  simp [zeroValue, typeInfo, h1, h4]
def isAggD : TypeDesc → Bool
  | .struct _ | .array _ _ => true
  | _ => false
theorem Cx.run_isAgg (h : C.ty t = some i) (w : World) : (isAgg t).run C.P w = .ok (isAggD i.desc) w := by
  simp only [isAgg, Sem.run_bind, C.run_und h, Result.andThen_ok]
  cases i.desc <;> rfl
end

/-! ### Values -/
def ofV1 : Value → AV
  | .bool b => .bool b
  | .int k n => .int k n
  | .string s => .str s
  | .slice none 0 0 => .list true []
  | .pointer none => .nilp
  | .map none => .nilm
  | .nilIface => .nili
  | .nilFunc => .nilf
  | _ => .undef
def ofV : Value → AV
  | .agg cs => .agg (cs.toList.map ofV1)
  | v => ofV1 v

theorem rep_ofV1 (G : Gh) (v : Value) : Rep G (ofV1 v) v := by
  unfold ofV1
  split
  · exact .bool _
  · exact .int _ _
  · exact .str _
  · exact .list0 true none 0 (fun _ => rfl)
  · exact .nilp
  · exact .nilm
  · exact .nili
  · exact .nilf
  · exact .undef _

theorem rep_ofV (G : Gh) (v : Value) : Rep G (ofV v) v := by
  unfold ofV
  split
  · rename_i cs
    refine .agg _ cs (by simp) fun i c v h1 h2 => ?_
    simp only [List.getElem?_map, Array.getElem?_toList, h2, Option.map_some, Option.some.injEq] at h1
    exact h1 ▸ rep_ofV1 G v
  · exact rep_ofV1 G _

/-- A value's cells, one by one. -/
def AV.def : AV → Bool
  | .undef => false
  | _ => true

theorem Rep.cells {G : Gh} {a : AV} {v : Value} (h : Rep G a v) (hd : a.def = true) : v.cells.size = a.cells.length ∧ ∀ (i : Nat) (c : AV), a.cells[i]? = some c → ∃ u : Value, v.cells[i]? = some u ∧ Rep G c u := by
  have one : ∀ (a : AV) (v : Value), Rep G a v → a.cells = [a] → v.cells = #[v] → v.cells.size = a.cells.length ∧ ∀ (i : Nat) (c : AV), a.cells[i]? = some c → ∃ u : Value, v.cells[i]? = some u ∧ Rep G c u := by
    intro a v h e1 e2
    rw [e1, e2]
    refine ⟨rfl, fun i c hc => ?_⟩
    cases i with
    | zero => simp at hc; subst hc; exact ⟨v, by simp, h⟩
    | succ i => simp at hc
  cases h with
  | undef => simp [AV.def] at hd
  | agg cs vs hl hv =>
    refine ⟨hl, fun i c hc => ?_⟩
    have hi : i < vs.size := by rw [hl]; exact (List.getElem?_eq_some_iff.1 hc).1
    exact ⟨vs[i], by simp [Value.cells, hi], hv i c _ hc (by simp [hi])⟩
  | bool => exact one _ _ (.bool _) rfl rfl
  | int => exact one _ _ (.int _ _) rfl rfl
  | str => exact one _ _ (.str _) rfl rfl
  | list0 f a c h => exact one _ _ (.list0 f a c h) rfl rfl
  | list full xs b o len cap es vs hl hc hf hs hI hv => exact one _ _ (.list full xs b o len cap es vs hl hc hf hs hI hv) rfl rfl
  | own id xs v h ht =>
    have h' := h
    cases h' with
    | list0 => exact one _ _ (.own id _ _ h ht) rfl rfl
    | list => exact one _ _ (.own id _ _ h ht) rfl rfl
  | row id off len cap o B hj hc h => exact one _ _ (.row id off len cap o B hj hc h) rfl rfl
  | ptr id k B hj => exact one _ _ (.ptr id k B hj) rfl rfl
  | rptr id i k B hj => exact one _ _ (.rptr id i k B hj) rfl rfl
  | eptr cells k b o vs hI hv => exact one _ _ (.eptr cells k b o vs hI hv) rfl rfl
  | nilp => exact one _ _ .nilp rfl rfl
  | tup cs vs hl hv => exact one _ _ (.tup cs vs hl hv) rfl rfl
  | fn f cs vs hl hv => exact one _ _ (.fn f cs vs hl hv) rfl rfl
  | yld l B hj => exact one _ _ (.yld l B hj) rfl rfl
  | nilf => exact one _ _ .nilf rfl rfl
  | map id B hj => exact one _ _ (.map id B hj) rfl rfl
  | nilm => exact one _ _ .nilm rfl rfl
  | iface t a v h => exact one _ _ (.iface t a v h) rfl rfl
  | nili => exact one _ _ .nili rfl rfl

theorem Rep.one {G : Gh} {a : AV} {v : Value} (h : Rep G a v) (ho : a.one = true) : v.oneCell' = true := by
  cases h with
  | own id xs v h ht => cases h <;> rfl
  | _ => first | rfl | simp [AV.one] at ho

/-! ### Environments -/
abbrev Env := Nat → AV
def ev (C : Cx) (nt : Nat) (env : Env) : Operand → AV
  | .tmp t => if t < nt then env t else .undef
  | .const v => ofV v
  | .global g => .eptr (C.gl g) 0
  | .func f => .fn f []
def upd (env : Env) (d : Nat) (v : AV) : Env := fun t => if t = d then v else env t

structure EnvRep (G : Gh) (nt : Nat) (env : Env) (tmps : Array Value) : Prop where
  size : tmps.size = nt
  rep : ∀ t, t < nt → Rep G (env t) (tmps.getD t undef)

theorem EnvRep.mono {G G' : Gh} {nt : Nat} {env : Env} {tmps : Array Value} (h : EnvRep G nt env tmps) (le : G.le G') : EnvRep G' nt env tmps := ⟨h.size, fun t ht => (h.rep t ht).mono le⟩

theorem EnvRep.ev {C : Cx} {w0 w : World} {G : Gh} {σ : Sto} {nt : Nat} {env : Env} {a : Act} (hi : Inv C.gl w0 G σ w) (h : EnvRep G nt env a.tmps) (x : Operand) : Rep G (ev C nt env x) (a.eval x) := by
  cases x with
  | tmp t =>
    simp only [Lg.ev, Act.eval]
    split
    · rename_i ht; exact h.rep t ht
    · exact .undef _
  | const v => exact rep_ofV G v
  | global g =>
    have e := Rep.eptr (G := G) (C.gl g) 0 g 0 (fun i => (G.I g i).getD undef) (fun i hi' => by
      obtain ⟨v, hv, _⟩ := hi.gl g i _ (List.getElem?_eq_getElem hi')
      simp [hv]) (fun i c hc => by
      obtain ⟨v, hv, hr⟩ := hi.gl g i c hc
      simp [hv, hr])
    simpa [Lg.ev, Act.eval] using e
  | func f => exact .fn f [] #[] rfl (fun i c v h1 _ => by simp at h1)

theorem EnvRep.put {G : Gh} {nt : Nat} {env : Env} {a : Act} (h : EnvRep G nt env a.tmps) {v : AV} {u : Value} (hr : Rep G v u) (d : Option Tmp) :
    EnvRep G nt (match d with | some d => upd env d v | none => env) (a.put d u).tmps := by
  cases d with
  | none => exact h
  | some d =>
    refine ⟨by simp [Act.put, h.size], fun t ht => ?_⟩
    simp only [Act.put, upd]
    by_cases e : t = d
    · subst e
      rw [if_pos rfl]
      simp [h.size, ht, hr]
    · rw [if_neg e]
      have := h.rep t ht
      simp only [Array.getD_eq_getD_getElem?] at this ⊢
      rw [Array.getElem?_setIfInBounds_ne (by omega)]
      exact this

/-! ### Addresses -/
theorem add_at (b o n : Nat) : (⟨b, o, none⟩ : Addr).add n = ⟨b, o + n, none⟩ := by unfold Addr.add; split <;> simp_all

/-! ### What an operation comes to -/
structure AR where
  c : Prop
  v : AV
  s : Sto

def Snd (C : Cx) (o : Oper) (ρ : Operand → AV) (σ : Sto) (r : AR) : Prop :=
  r.c → ∀ (w0 : World) (G : Gh) (a : Act) (w : World), Inv C.gl w0 G σ w → (∀ x ∈ o.op.operands.toList, Rep G (ρ x) (a.eval x)) →
    ∃ G' nx v' w', (execOp a.eval o).run C.P w = .ok nx w' ∧ (nx = .value v' ∨ nx = .skip ∧ v' = undef) ∧ Rep G' r.v v' ∧ Inv C.gl w0 G' r.s w' ∧ Ext G σ w G' r.s w'

theorem snd_pure {C : Cx} {o : Oper} {ρ : Operand → AV} {σ : Sto} {v : AV} {c : Prop}
    (h : c → ∀ (w0 : World) (G : Gh) (a : Act) (w : World), Inv C.gl w0 G σ w → (∀ x ∈ o.op.operands.toList, Rep G (ρ x) (a.eval x)) → ∃ v', (execOp a.eval o).run C.P w = .ok (.value v') w ∧ Rep G v v') : Snd C o ρ σ ⟨c, v, σ⟩ := by
  intro hc w0 G a w hi hx
  obtain ⟨v', h1, h2⟩ := h hc w0 G a w hi hx
  exact ⟨G, _, v', w, h1, .inl rfl, h2, hi, .refl G σ w⟩

def AV.isBool : AV → Bool
  | .bool _ => true
  | _ => false
def AV.theB : AV → Bool
  | .bool b => b
  | _ => false
theorem Rep.isBool {G : Gh} {a : AV} {v : Value} (h : Rep G a v) (hb : a.isBool = true) : v = .bool a.theB := by
  cases h <;> simp_all [AV.isBool, AV.theB]

/-- What an operation leaves that is not carried out. -/
abbrev AV.skp : AV := .tup []
theorem rep_skp (G : Gh) : Rep G .skp Go.undef := .tup [] #[] rfl (fun i c v h => by simp at h)
/-- A value that a guard may look at. -/
def AV.isGd : AV → Bool
  | .bool _ => true
  | .tup [] => true
  | _ => false
def AV.goes (v : AV) (want : Bool) : Bool :=
  match v with
  | .bool b => b == want
  | _ => false

def AV.isInt : AV → Bool
  | .int _ _ => true
  | _ => false
def AV.theI : AV → Int
  | .int _ n => n
  | _ => 0
def AV.theK : AV → IntKind
  | .int k _ => k
  | _ => .i64
theorem Rep.isInt {G : Gh} {a : AV} {v : Value} (h : Rep G a v) (hb : a.isInt = true) : v = .int a.theK a.theI := by
  cases h <;> simp_all [AV.isInt, AV.theI, AV.theK]

/-- Reading a variable of type t out of cells. -/
def rdC (i : TyI) (cells : List AV) (k : Nat) : AV := if isAggD i.desc then .agg ((cells.drop k).take i.size) else cells.getD k .undef
def rdOK (i : TyI) (cells : List AV) (k : Nat) : Prop := k + i.size ≤ cells.length ∧ (isAggD i.desc = false → i.size = 1)

/-- Cells replaced from k on. -/
def wr (cells : List AV) (k : Nat) (xs : List AV) : List AV := cells.take k ++ xs ++ cells.drop (k + xs.length)

def rowElems (σ : Sto) (id : Nat) : List AV :=
  match σ.get id with
  | some (.row _ xs _) => xs
  | _ => []
def boxCells (σ : Sto) (id : Nat) : List AV :=
  match σ.get id with
  | some (.box cs) => cs
  | _ => []

/-- The loaded value, given what the cells hold. -/
theorem run_loadVar_rd {C : Cx} {t : TypeId} {i : TyI} (ht : C.ty t = some i) {G : Gh} {w : World} {cells : List AV} {b o k : Nat}
    (hc : ∀ j c, cells[j]? = some c → ∃ v, w.cell? ⟨b, o + j, none⟩ = some v ∧ Rep G c v) (hk : rdOK i cells k) :
    ∃ v, (loadVar t ⟨b, o + k, none⟩).run C.P w = .ok v w ∧ Rep G (rdC i cells k) v := by
  obtain ⟨h1, h2⟩ := hk
  simp only [loadVar, Sem.run_bind, C.run_isAgg ht, Result.andThen_ok, rdC]
  by_cases ha : isAggD i.desc = true
  · let f : Nat → Value := fun j => (w.cell? ⟨b, o + k + j, none⟩).getD undef
    have hf : ∀ j, j < i.size → w.cell? ((⟨b, o + k, none⟩ : Addr).add j) = some (f j) := by
      intro j hj
      rw [add_at]
      obtain ⟨v, hv, _⟩ := hc (k + j) _ (List.getElem?_eq_getElem (by omega))
      have e : o + k + j = o + (k + j) := by omega
      simp only [f, e, hv, Option.getD_some]
    have hl := run_loadCells (P := C.P) w ⟨b, o + k, none⟩ i.size f hf
    simp only [ha, if_true, Sem.run_bind, C.run_size ht, Result.andThen_ok, hl, Sem.run_pure]
    refine ⟨_, rfl, .agg _ _ (by simp; omega) fun j c v hj hv => ?_⟩
    have hjs : j < i.size := by
      have := (List.getElem?_eq_some_iff.1 hj).1
      simp at this; omega
    simp only [List.getElem?_take, hjs, if_true, List.getElem?_drop] at hj
    obtain ⟨v2, hv2, hr⟩ := hc (k + j) c hj
    simp only [List.getElem?_toArray, List.getElem?_map, List.getElem?_range hjs, Option.map_some, Option.some.injEq] at hv
    subst hv
    have e : o + k + j = o + (k + j) := by omega
    simp only [f, e, hv2, Option.getD_some]
    exact hr
  · have hs := h2 (by simpa using ha)
    obtain ⟨v, hv, hr⟩ := hc k _ (List.getElem?_eq_getElem (by omega))
    have e : load (⟨b, o + k, none⟩ : Addr) = Sem.load .plain ⟨b, o + k, none⟩ .pure := rfl
    refine ⟨v, ?_, ?_⟩
    · simp [ha, e, Sem.run, hv]
    · simp only [ha, if_false, Bool.false_eq_true]
      rw [List.getD_eq_getElem?_getD, List.getElem?_eq_getElem (by omega)]
      exact hr

theorem cell_at {w : World} {b k : Nat} {vs : Array Value} {ty : TypeId} {fr : Nat × Nat} (h : w.heap[b]? = some (.cells vs ty fr)) : w.cell? ⟨b, k, none⟩ = vs[k]? := by simp [World.cell?, h]

end Go.Lg
