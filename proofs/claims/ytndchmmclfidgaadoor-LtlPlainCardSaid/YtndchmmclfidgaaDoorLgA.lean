/- Lg, part A: abstract values, ghost state, representation, the invariant that ties a store to a world, and its steps. No program in sight. -/
import Derived.Below
import Derived.CallsIn
import Derived.LoopNIn
import Derived.Laws.World
import Derived.Laws.Rows
set_option linter.unusedVariables false
set_option linter.unusedSimpArgs false
namespace Go.Lg
open Go.RowKit

/-- A value without memory. -/
inductive AV where
  | undef
  | bool (b : Bool)
  | int (k : IntKind) (n : Int)
  | str (s : ByteArray)
  | list (full : Bool) (xs : List AV)
  | own (id : Nat) (xs : List AV)
  | row (id off len : Nat)
  | ptr (id k : Nat)
  | rptr (id i k : Nat)
  | eptr (cells : List AV) (k : Nat)
  | nilp
  | agg (cs : List AV)
  | tup (vs : List AV)
  | fn (f : FuncId) (caps : List AV)
  | yld (l : Nat)
  | nilf
  | map (id : Nat)
  | nilm
  | iface (t : TypeId) (v : AV)
  | nili
  deriving Inhabited

def AV.cells : AV → List AV
  | .agg cs => cs
  | v => [v]

/-- The value of one cell. -/
def AV.one : AV → Bool
  | .agg _ | .tup _ | .undef => false
  | _ => true

structure Blk where
  b : Nat
  o0 : Nat
  sz : Nat
  es : Nat

/-- What is known of a list that is still appended to: its length, its address, its capacity. -/
structure Tk where
  n : Nat
  a : Option Addr
  cap : Nat

/-- Ghost state: which block an abstract object is, and which cells never change again. -/
structure Gh where
  j : Nat → Option Blk
  I : Nat → Nat → Option Value
  T : Nat → Option Tk

structure Gh.le (G G' : Gh) : Prop where
  j : ∀ id B, G.j id = some B → G'.j id = some B
  I : ∀ b o v, G.I b o = some v → G'.I b o = some v
  T : ∀ id T, G.T id = some T → ∃ T', G'.T id = some T' ∧ T.n ≤ T'.n ∧ (T'.n = T.n → T' = T)

theorem Gh.same_T {G G' : Gh} (h : G'.T = G.T) : ∀ id T, G.T id = some T → ∃ T', G'.T id = some T' ∧ T.n ≤ T'.n ∧ (T'.n = T.n → T' = T) := fun id T hT => ⟨T, by rw [h]; exact hT, Nat.le_refl _, fun _ => rfl⟩
theorem Gh.le.refl (G : Gh) : G.le G := ⟨fun _ _ h => h, fun _ _ _ h => h, Gh.same_T rfl⟩
theorem Gh.le.trans {A B C : Gh} (h : A.le B) (k : B.le C) : A.le C := ⟨fun _ _ x => k.j _ _ (h.j _ _ x), fun _ _ _ x => k.I _ _ _ (h.I _ _ _ x), fun id T hT => by
  obtain ⟨T1, h1, h2, h3⟩ := h.T id T hT
  obtain ⟨T2, k1, k2, k3⟩ := k.T id T1 h1
  refine ⟨T2, k1, Nat.le_trans h2 k2, fun e => ?_⟩
  have e1 : T1.n = T.n := by omega
  have e2 := h3 e1
  subst e2
  exact k3 (by omega)⟩

/-- v is the list that is still appended to under number id, or an earlier state of it. -/
def TokFit (G : Gh) (id n : Nat) (v : Value) : Prop := ∃ T, G.T id = some T ∧ n ≤ T.n ∧ (T.n = n → v = .slice T.a n T.cap)
theorem TokFit.mono {G G' : Gh} {id n : Nat} {v : Value} (h : TokFit G id n v) (le : G.le G') : TokFit G' id n v := by
  obtain ⟨T, h1, h2, h3⟩ := h
  obtain ⟨T', k1, k2, k3⟩ := le.T id T h1
  refine ⟨T', k1, Nat.le_trans h2 k2, fun e => ?_⟩
  have e1 : T'.n = T.n := by omega
  have e2 := k3 e1
  subst e2
  exact h3 e

inductive Rep (G : Gh) : AV → Value → Prop
  | undef (v : Value) : Rep G .undef v
  | bool (b : Bool) : Rep G (.bool b) (.bool b)
  | int (k : IntKind) (n : Int) : Rep G (.int k n) (.int k n)
  | str (s : ByteArray) : Rep G (.str s) (.string s)
  | list0 (full : Bool) (a : Option Addr) (cap : Nat) (h : full = true → cap = 0) : Rep G (.list full []) (.slice a 0 cap)
  | list (full : Bool) (xs : List AV) (b o len cap es : Nat) (vs : Nat → Nat → Value) (hl : xs.length = len) (hc : len ≤ cap) (hf : full = true → cap = len)
      (hs : ∀ (i : Nat) (x : AV), xs[i]? = some x → x.cells.length = es) (hI : ∀ i k, i < len → k < es → G.I b (o + (i * es + k)) = some (vs i k))
      (hv : ∀ (i : Nat) (x : AV) (k : Nat) (c : AV), xs[i]? = some x → x.cells[k]? = some c → Rep G c (vs i k)) : Rep G (.list full xs) (.slice (some ⟨b, o, none⟩) len cap)
  | own (id : Nat) (xs : List AV) (v : Value) (h : Rep G (.list false xs) v) (ht : TokFit G id xs.length v) : Rep G (.own id xs) v
  | row (id off len cap o : Nat) (B : Blk) (hj : G.j id = some B) (hc : len ≤ cap) (h : (o = B.o0 + off * B.es ∧ o + cap * B.es = B.sz) ∨ (len = 0 ∧ cap = 0)) :
      Rep G (.row id off len) (.slice (some ⟨B.b, o, none⟩) len cap)
  | ptr (id k : Nat) (B : Blk) (hj : G.j id = some B) : Rep G (.ptr id k) (.pointer (some ⟨B.b, k, none⟩))
  | rptr (id i k : Nat) (B : Blk) (hj : G.j id = some B) : Rep G (.rptr id i k) (.pointer (some ⟨B.b, B.o0 + i * B.es + k, none⟩))
  | eptr (cells : List AV) (k b o : Nat) (vs : Nat → Value) (hI : ∀ i, i < cells.length → G.I b (o + i) = some (vs i))
      (hv : ∀ (i : Nat) (c : AV), cells[i]? = some c → Rep G c (vs i)) : Rep G (.eptr cells k) (.pointer (some ⟨b, o + k, none⟩))
  | nilp : Rep G .nilp (.pointer none)
  | agg (cs : List AV) (vs : Array Value) (hl : vs.size = cs.length) (hv : ∀ (i : Nat) (c : AV) (v : Value), cs[i]? = some c → vs[i]? = some v → Rep G c v) : Rep G (.agg cs) (.agg vs)
  | tup (cs : List AV) (vs : Array Value) (hl : vs.size = cs.length) (hv : ∀ (i : Nat) (c : AV) (v : Value), cs[i]? = some c → vs[i]? = some v → Rep G c v) : Rep G (.tup cs) (.tuple vs)
  | fn (f : FuncId) (cs : List AV) (vs : Array Value) (hl : vs.size = cs.length) (hv : ∀ (i : Nat) (c : AV) (v : Value), cs[i]? = some c → vs[i]? = some v → Rep G c v) : Rep G (.fn f cs) (.func (.func f) #[] vs)
  | yld (l : Nat) (B : Blk) (hj : G.j l = some B) : Rep G (.yld l) (.func (.yield B.b) #[] #[])
  | nilf : Rep G .nilf .nilFunc
  | map (id : Nat) (B : Blk) (hj : G.j id = some B) : Rep G (.map id) (.map (some B.b))
  | nilm : Rep G .nilm (.map none)
  | iface (t : TypeId) (a : AV) (v : Value) (h : Rep G a v) : Rep G (.iface t a) (.iface t v)
  | nili : Rep G .nili .nilIface

theorem Rep.mono {G G' : Gh} {a : AV} {v : Value} (h : Rep G a v) (le : G.le G') : Rep G' a v := by
  induction h with
  | undef v => exact .undef v
  | bool b => exact .bool b
  | int k n => exact .int k n
  | str s => exact .str s
  | list0 f a c h => exact .list0 f a c h
  | list full xs b o len cap es vs hl hc hf hs hI hv ih => exact .list full xs b o len cap es vs hl hc hf hs (fun i k hi hk => le.I _ _ _ (hI i k hi hk)) ih
  | own id xs v h ht ih => exact .own id xs v ih (ht.mono le)
  | row id off len cap o B hj hc h => exact .row id off len cap o B (le.j _ _ hj) hc h
  | ptr id k B hj => exact .ptr id k B (le.j _ _ hj)
  | rptr id i k B hj => exact .rptr id i k B (le.j _ _ hj)
  | eptr cells k b o vs hI hv ih => exact .eptr cells k b o vs (fun i hi => le.I _ _ _ (hI i hi)) ih
  | nilp => exact .nilp
  | agg cs vs hl hv ih => exact .agg cs vs hl ih
  | tup cs vs hl hv ih => exact .tup cs vs hl ih
  | fn f cs vs hl hv ih => exact .fn f cs vs hl ih
  | yld l B hj => exact .yld l B (le.j _ _ hj)
  | nilf => exact .nilf
  | map id B hj => exact .map id B (le.j _ _ hj)
  | nilm => exact .nilm
  | iface t a v h ih => exact .iface t a v ih
  | nili => exact .nili

/-- No reference to the store: its meaning rests on cells that never change alone. -/
inductive Closed : AV → Prop
  | undef : Closed .undef
  | bool (b : Bool) : Closed (.bool b)
  | int (k : IntKind) (n : Int) : Closed (.int k n)
  | str (s : ByteArray) : Closed (.str s)
  | list (full : Bool) (xs : List AV) (h : ∀ x ∈ xs, ∀ c ∈ x.cells, Closed c) : Closed (.list full xs)
  | eptr (cells : List AV) (k : Nat) (h : ∀ c ∈ cells, Closed c) : Closed (.eptr cells k)
  | nilp : Closed .nilp
  | agg (cs : List AV) (h : ∀ c ∈ cs, Closed c) : Closed (.agg cs)
  | tup (cs : List AV) (h : ∀ c ∈ cs, Closed c) : Closed (.tup cs)
  | fn (f : FuncId) (cs : List AV) (h : ∀ c ∈ cs, Closed c) : Closed (.fn f cs)
  | nilf : Closed .nilf
  | nilm : Closed .nilm
  | iface (t : TypeId) (v : AV) (h : Closed v) : Closed (.iface t v)
  | nili : Closed .nili

theorem mem_of_get {α : Type} {xs : List α} {i : Nat} {x : α} (h : xs[i]? = some x) : x ∈ xs := List.mem_of_getElem? h

theorem Rep.closed {G G' : Gh} {a : AV} {v : Value} (h : Rep G a v) (hI : ∀ b o v, G.I b o = some v → G'.I b o = some v) (hc : Closed a) : Rep G' a v := by
  induction h with
  | undef v => exact .undef v
  | bool b => exact .bool b
  | int k n => exact .int k n
  | str s => exact .str s
  | list0 f a c h => exact .list0 f a c h
  | list full xs b o len cap es vs hl hc' hf hs hI' hv ih =>
    cases hc with
    | list _ _ hx => exact .list full xs b o len cap es vs hl hc' hf hs (fun i k hi hk => hI _ _ _ (hI' i k hi hk)) (fun i x k c h1 h2 => ih i x k c h1 h2 (hx x (mem_of_get h1) c (mem_of_get h2)))
  | own => cases hc
  | row => cases hc
  | ptr => cases hc
  | rptr => cases hc
  | eptr cells k b o vs hI' hv ih =>
    cases hc with
    | eptr _ _ hx => exact .eptr cells k b o vs (fun i hi => hI _ _ _ (hI' i hi)) (fun i c h1 => ih i c h1 (hx c (mem_of_get h1)))
  | nilp => exact .nilp
  | agg cs vs hl hv ih => cases hc with | agg _ hx => exact .agg cs vs hl (fun i c v h1 h2 => ih i c v h1 h2 (hx c (mem_of_get h1)))
  | tup cs vs hl hv ih => cases hc with | tup _ hx => exact .tup cs vs hl (fun i c v h1 h2 => ih i c v h1 h2 (hx c (mem_of_get h1)))
  | fn f cs vs hl hv ih => cases hc with | fn _ _ hx => exact .fn f cs vs hl (fun i c v h1 h2 => ih i c v h1 h2 (hx c (mem_of_get h1)))
  | yld => cases hc
  | nilf => exact .nilf
  | map => cases hc
  | nilm => exact .nilm
  | iface t a v h ih => cases hc with | iface _ _ hx => exact .iface t a v (ih hx)
  | nili => exact .nili

/-! ### The store -/
/-- A loop over a function: the temporaries that its rounds begin with, its parameters, its codes. -/
structure LoopI where
  nt : Nat
  env : Nat → AV
  ps : Array Tmp
  assign : Code
  body : Code

inductive AObj where
  | box (cells : List AV)
  | row (es : Nat) (elems : List AV) (froz : Bool)
  | tok (es n : Nat)
  | loop (L : LoopI) (st : LoopState) (pe : Option Code)
  | mp (es : List (AV × AV))

structure Sto where
  get : Nat → Option AObj
  next : Nat

def Sto.none : Sto := ⟨fun _ => Option.none, 0⟩
def Sto.set (σ : Sto) (id : Nat) (o : AObj) : Sto := ⟨fun i => if i = id then some o else σ.get i, σ.next⟩
def Sto.add (σ : Sto) (o : AObj) : Sto := ⟨fun i => if i = σ.next then some o else σ.get i, σ.next + 1⟩
def Sto.del (σ : Sto) (id : Nat) : Sto := ⟨fun i => if i = id then Option.none else σ.get i, σ.next⟩

/-- The one value that a plain value (numbers, texts, truth values, structs and arrays of these) stands for. -/
def AV.pv1 : AV → Option Value
  | .bool b => some (.bool b)
  | .int k n => some (.int k n)
  | .str s => some (.string s)
  | _ => Option.none
def AV.pvL : List AV → Option (List Value)
  | [] => some []
  | a :: l => match a.pv1, AV.pvL l with
    | some v, some vs => some (v :: vs)
    | _, _ => Option.none
def AV.pv : AV → Option Value
  | .agg cs => (AV.pvL cs).map fun l => .agg l.toArray
  | a => a.pv1

def ObjOK (G : Gh) (B : Blk) (w : World) : AObj → Prop
  | .box cells => ∃ (vs : Array Value) (ty : TypeId), w.heap[B.b]? = some (.cells vs ty (0, 0)) ∧ vs.size = cells.length ∧ (∀ (i : Nat) (c : AV), cells[i]? = some c → ∃ v : Value, vs[i]? = some v ∧ Rep G c v) ∧ ∀ k : Nat, G.I B.b k = Option.none
  | .row es elems froz => ∃ (vs : Array Value) (ty : TypeId), w.heap[B.b]? = some (.cells vs ty (0, 0)) ∧ vs.size = B.sz ∧ B.es = es ∧ B.o0 + elems.length * es ≤ B.sz ∧ (∀ (i : Nat) (x : AV), elems[i]? = some x → x.cells.length = es) ∧
      (∀ (i : Nat) (x : AV) (k : Nat) (c : AV), elems[i]? = some x → x.cells[k]? = some c → ∃ v : Value, vs[B.o0 + i * es + k]? = some v ∧ Rep G c v) ∧
      (∀ k : Nat, B.o0 ≤ k → G.I B.b k = if froz = true ∧ k < B.o0 + elems.length * es then vs[k]? else Option.none)
  | .tok _ _ => False
  | .loop L st pe => ∃ r : Loop, w.heap[B.b]? = some (.loop r) ∧ r.state = st ∧ r.pending = pe ∧ r.params = L.ps ∧ r.assign = L.assign ∧ r.body = L.body ∧ r.tmps.size = L.nt ∧
      (∀ t, t < L.nt → Rep G (L.env t) (r.tmps.getD t undef)) ∧ ∀ k : Nat, G.I B.b k = Option.none
  | .mp es => ∃ (xs : Array MapEntry) (clock : Nat), w.heap[B.b]? = some (.map xs clock) ∧ xs.size = es.length ∧
      (∀ (i : Nat) (e : AV × AV), es[i]? = some e → ∃ m : MapEntry, xs[i]? = some m ∧ e.1.pv = some m.key ∧ Rep G e.2 m.val) ∧ ∀ k : Nat, G.I B.b k = Option.none

/-- The block that the list under number id is appended to in. -/
def TokB (G : Gh) (σ : Sto) (id b : Nat) : Prop := ∃ es n T o, σ.get id = some (.tok es n) ∧ G.T id = some T ∧ T.n < T.cap ∧ T.a = some ⟨b, o, none⟩
structure TokInv (w0 : World) (G : Gh) (σ : Sto) (w : World) : Prop where
  ok : ∀ id es n, σ.get id = some (.tok es n) → ∃ T, G.T id = some T ∧ T.n = n ∧ n ≤ T.cap ∧
    (T.n < T.cap → ∃ b o vs ty, T.a = some ⟨b, o, none⟩ ∧ w0.heap.size ≤ b ∧ w.heap[b]? = some (.cells vs ty (0, 0)) ∧ vs.size = o + T.cap * es ∧ ∀ k, o + n * es ≤ k → G.I b k = none)
  inj : ∀ id id' b, TokB G σ id b → TokB G σ id' b → id = id'
  oj : ∀ id b, TokB G σ id b → ∀ id' o B, σ.get id' = some o → G.j id' = some B → B.b ≠ b
theorem TokInv.lt {w0 w : World} {G : Gh} {σ : Sto} (h : TokInv w0 G σ w) {id b : Nat} (hb : TokB G σ id b) : b < w.heap.size := by
  obtain ⟨es, n, T, o, h1, h2, h3, h4⟩ := hb
  obtain ⟨T', k1, k2, k3, k4⟩ := h.ok id es n h1
  rw [h2] at k1; cases k1
  obtain ⟨b', o', vs, ty, g1, g2, g3, _⟩ := k4 h3
  rw [h4] at g1; cases g1
  exact (Array.getElem?_eq_some_iff.1 g3).1
/-- Steps that don't touch what is appended to. -/
theorem TokInv.step {w0 w w' : World} {G G' : Gh} {σ σ' : Sto} (h : TokInv w0 G σ w) (hT : G'.T = G.T) (hs : ∀ id es n, σ'.get id = some (.tok es n) → σ.get id = some (.tok es n))
    (hk : ∀ id b, TokB G σ id b → w'.heap[b]? = w.heap[b]? ∧ ∀ o, G'.I b o = G.I b o)
    (hj : ∀ id b, TokB G σ id b → ∀ id' o B, σ'.get id' = some o → G'.j id' = some B → B.b ≠ b) : TokInv w0 G' σ' w' := by
  have up : ∀ id b, TokB G' σ' id b → TokB G σ id b := by
    rintro id b ⟨es, n, T, o, h1, h2, h3, h4⟩
    exact ⟨es, n, T, o, hs id es n h1, by rw [← hT]; exact h2, h3, h4⟩
  refine ⟨fun id es n hg => ?_, fun id id' b h1 h2 => h.inj id id' b (up _ _ h1) (up _ _ h2), fun id b h1 => hj id b (up _ _ h1)⟩
  obtain ⟨T, k1, k2, k3, k4⟩ := h.ok id es n (hs id es n hg)
  refine ⟨T, by rw [hT]; exact k1, k2, k3, fun hc => ?_⟩
  obtain ⟨b, o, vs, ty, g1, g2, g3, g4, g5⟩ := k4 hc
  obtain ⟨e1, e2⟩ := hk id b ⟨es, n, T, o, hs id es n hg, k1, hc, g1⟩
  exact ⟨b, o, vs, ty, g1, g2, e1.trans g3, g4, fun k hk' => (e2 k).trans (g5 k hk')⟩

structure Inv (gl : Nat → List AV) (w0 : World) (G : Gh) (σ : Sto) (w : World) : Prop where
  below : Below w0.heap.size w0 w
  imm : ∀ b o v, G.I b o = some v → w.cell? ⟨b, o, none⟩ = some v
  gl : ∀ g k c, (gl g)[k]? = some c → ∃ v, G.I g k = some v ∧ Rep G c v
  live : ∀ id o, σ.get id = some o → id < σ.next
  obj : ∀ id o B, σ.get id = some o → G.j id = some B → w0.heap.size ≤ B.b ∧ ObjOK G B w o
  fresh : ∀ id, σ.next ≤ id → G.j id = none
  inj : ∀ id id' o o' B B', σ.get id = some o → σ.get id' = some o' → G.j id = some B → G.j id' = some B' → B.b = B'.b → id = id'
  has : ∀ id o, σ.get id = some o → (∀ es n, o ≠ .tok es n) → ∃ B, G.j id = some B
  freshT : ∀ id, σ.next ≤ id → G.T id = none
  tok : TokInv w0 G σ w

def Own (G : Gh) (σ : Sto) (b : Nat) : Prop := (∃ id o B, σ.get id = some o ∧ G.j id = some B ∧ B.b = b) ∨ ∃ id, TokB G σ id b

/-- What a step leaves as it was. -/
structure Ext (G : Gh) (σ : Sto) (w : World) (G' : Gh) (σ' : Sto) (w' : World) : Prop where
  le : G.le G'
  size : w.heap.size ≤ w'.heap.size
  keep : ∀ b, b < w.heap.size → ¬ Own G σ b → w'.heap[b]? = w.heap[b]? ∧ (∀ o, G'.I b o = G.I b o) ∧ ¬ Own G' σ' b
  next : σ.next ≤ σ'.next

theorem Ext.refl (G : Gh) (σ : Sto) (w : World) : Ext G σ w G σ w :=
  ⟨.refl G, Nat.le_refl _, fun _ _ h => ⟨rfl, fun _ => rfl, h⟩, Nat.le_refl _⟩

theorem Ext.trans {G G1 G2 : Gh} {σ σ1 σ2 : Sto} {w w1 w2 : World} (h : Ext G σ w G1 σ1 w1) (k : Ext G1 σ1 w1 G2 σ2 w2) : Ext G σ w G2 σ2 w2 where
  le := h.le.trans k.le
  size := Nat.le_trans h.size k.size
  keep := fun b hb ho => by
    obtain ⟨a1, a2, a3⟩ := h.keep b hb ho
    obtain ⟨b1, b2, b3⟩ := k.keep b (Nat.lt_of_lt_of_le hb h.size) a3
    exact ⟨b1.trans a1, fun o => (b2 o).trans (a2 o), b3⟩
  next := Nat.le_trans h.next k.next

/-- The object's block is there. -/
theorem ObjOK.lt {G : Gh} {B : Blk} {w : World} {o : AObj} (h : ObjOK G B w o) : B.b < w.heap.size := by
  cases o with
  | box cells => obtain ⟨vs, ty, h, _⟩ := h; exact (Array.getElem?_eq_some_iff.1 h).1
  | row es elems froz => obtain ⟨vs, ty, h, _⟩ := h; exact (Array.getElem?_eq_some_iff.1 h).1
  | tok => exact h.elim
  | loop L st pe => obtain ⟨r, h, _⟩ := h; exact (Array.getElem?_eq_some_iff.1 h).1
  | mp es => obtain ⟨xs, c, h, _⟩ := h; exact (Array.getElem?_eq_some_iff.1 h).1

theorem Inv.imm_lt {gl : Nat → List AV} {w0 w : World} {G : Gh} {σ : Sto} (h : Inv gl w0 G σ w) {b o : Nat} {v : Value} (hi : G.I b o = some v) : b < w.heap.size :=
  World.block_lt_of_cell? w ⟨b, o, none⟩ (h.imm b o v hi)

/-- An object is as it was where its block and the ghost's view of it are. -/
theorem ObjOK.keep {G G' : Gh} {B : Blk} {w w' : World} {o : AObj} (h : ObjOK G B w o) (le : G.le G') (hb : w'.heap[B.b]? = w.heap[B.b]?) (hI : ∀ k, G'.I B.b k = G.I B.b k) : ObjOK G' B w' o := by
  cases o with
  | box cells =>
    obtain ⟨vs, ty, h1, h2, h3, h4⟩ := h
    exact ⟨vs, ty, hb.trans h1, h2, fun i c hc => (h3 i c hc).imp fun v hv => ⟨hv.1, hv.2.mono le⟩, fun k => (hI k).trans (h4 k)⟩
  | row es elems froz =>
    obtain ⟨vs, ty, h1, h2, h3, h4, h5, h6, h7⟩ := h
    exact ⟨vs, ty, hb.trans h1, h2, h3, h4, h5, fun i x k c hx hc => (h6 i x k c hx hc).imp fun v hv => ⟨hv.1, hv.2.mono le⟩, fun k hk => (hI k).trans (h7 k hk)⟩
  | tok => exact h.elim
  | loop L st pe =>
    obtain ⟨r, h1, h2, h3, h4, h5, h6, h7, h8, h9⟩ := h
    exact ⟨r, hb.trans h1, h2, h3, h4, h5, h6, h7, fun t ht => (h8 t ht).mono le, fun k => (hI k).trans (h9 k)⟩
  | mp es =>
    obtain ⟨xs, c, h1, h2, h3, h4⟩ := h
    exact ⟨xs, c, hb.trans h1, h2, fun i e he => (h3 i e he).imp fun m hm => ⟨hm.1, hm.2.1, hm.2.2.mono le⟩, fun k => (hI k).trans (h4 k)⟩

/-! ### Steps of the world -/
/-- The heap is the same (a draw). -/
theorem Inv.heap {gl : Nat → List AV} {w0 w w' : World} {G : Gh} {σ : Sto} (h : Inv gl w0 G σ w) (hh : w'.heap = w.heap) (ho : w'.os = w.os) (ht : w'.tape = w.tape) (hu : w'.output = w.output) : Inv gl w0 G σ w' where
  below := h.below.trans ⟨ho, ht, hu, by rw [hh]; exact Nat.le_refl _, fun k _ => by rw [hh]⟩
  imm := fun b o v hv => (World.cell?_of_block (w := w) (a := ⟨b, o, none⟩) (by rw [hh])).trans (h.imm b o v hv)
  gl := h.gl
  live := h.live
  obj := fun id o B h1 h2 => ⟨(h.obj id o B h1 h2).1, (h.obj id o B h1 h2).2.keep (.refl G) (by rw [hh]) (fun _ => rfl)⟩
  fresh := h.fresh
  inj := h.inj
  has := h.has
  freshT := h.freshT
  tok := h.tok.step rfl (fun _ _ _ x => x) (fun _ _ _ => ⟨by rw [hh], fun _ => rfl⟩) h.tok.oj

theorem Ext.heap {w w' : World} (G : Gh) (σ : Sto) (hh : w'.heap = w.heap) : Ext G σ w G σ w' :=
  ⟨.refl G, by rw [hh]; exact Nat.le_refl _, fun _ _ h => ⟨by rw [hh], fun _ => rfl, h⟩, Nat.le_refl _⟩

/-- The store forgets an object. -/
theorem Inv.del {gl : Nat → List AV} {w0 w : World} {G : Gh} {σ : Sto} (h : Inv gl w0 G σ w) (id : Nat) : Inv gl w0 G (σ.del id) w where
  below := h.below
  imm := h.imm
  gl := h.gl
  live := fun i o hi => by
    simp only [Sto.del] at hi ⊢
    split at hi
    · cases hi
    · exact h.live i o hi
  obj := fun i o B hi => by
    simp only [Sto.del] at hi
    split at hi
    · cases hi
    · exact h.obj i o B hi
  fresh := h.fresh
  inj := fun i i' o o' B B' h1 h2 => by
    simp only [Sto.del] at h1 h2
    split at h1
    · cases h1
    · split at h2
      · cases h2
      · exact h.inj i i' o o' B B' h1 h2
  has := fun i o hi => by
    simp only [Sto.del] at hi
    split at hi
    · cases hi
    · exact h.has i o hi
  freshT := h.freshT
  tok := by
    have g : ∀ i o, (σ.del id).get i = some o → σ.get i = some o := fun i o hi => by
      simp only [Sto.del] at hi
      split at hi
      · cases hi
      · exact hi
    exact h.tok.step rfl (fun _ _ _ x => g _ _ x) (fun _ _ _ => ⟨rfl, fun _ => rfl⟩) (fun i b hb i' o B h1 => h.tok.oj i b hb i' o B (g _ _ h1))

/-- A new block whose cells never change: a list. -/
def Gh.mark (G : Gh) (b : Nat) (vs : Array Value) : Gh := ⟨G.j, fun b' o => if b' = b then vs[o]? else G.I b' o, G.T⟩

theorem Gh.le_mark {gl : Nat → List AV} {w0 w : World} {G : Gh} {σ : Sto} (h : Inv gl w0 G σ w) (vs : Array Value) : G.le (G.mark w.heap.size vs) := by
  refine ⟨fun _ _ x => x, fun b o v hv => ?_, Gh.same_T rfl⟩
  have hlt := h.imm_lt hv
  simp only [Gh.mark]
  rw [if_neg (by omega)]
  exact hv

theorem Own.lt {gl : Nat → List AV} {w0 w : World} {G : Gh} {σ : Sto} (h : Inv gl w0 G σ w) {b : Nat} (ho : Own G σ b) : b < w.heap.size := by
  rcases ho with ⟨id, o, B, h1, h2, rfl⟩ | ⟨id, hb⟩
  · exact (h.obj id o B h1 h2).2.lt
  · exact h.tok.lt hb

theorem Inv.base_le {gl : Nat → List AV} {w0 w : World} {G : Gh} {σ : Sto} (h : Inv gl w0 G σ w) : w0.heap.size ≤ w.heap.size := h.below.size

theorem Inv.mark {gl : Nat → List AV} {w0 w : World} {G : Gh} {σ : Sto} (h : Inv gl w0 G σ w) (vs : Array Value) (ty : TypeId) :
    Inv gl w0 (G.mark w.heap.size vs) σ (w.alloc (.cells vs ty)) where
  below := h.below.alloc h.base_le _
  imm := fun b o v hv => by
    simp only [Gh.mark] at hv
    split at hv
    · rename_i e; subst e
      rw [World.cell?_alloc_new]; exact hv
    · rw [World.cell?_alloc_lt (h := h.imm_lt hv)]; exact h.imm b o v hv
  gl := fun g k c hc => (h.gl g k c hc).imp fun v hv => ⟨(Gh.le_mark h vs).I _ _ _ hv.1, hv.2.mono (Gh.le_mark h vs)⟩
  live := h.live
  obj := fun id o B h1 h2 => by
    have hb := (h.obj id o B h1 h2).2.lt
    refine ⟨(h.obj id o B h1 h2).1, (h.obj id o B h1 h2).2.keep (Gh.le_mark h vs) (Below.heap_alloc _ _ _ hb) fun k => ?_⟩
    simp only [Gh.mark]; rw [if_neg (by omega)]
  fresh := h.fresh
  inj := h.inj
  has := h.has
  freshT := h.freshT
  tok := h.tok.step rfl (fun _ _ _ x => x) (fun id b hb => by
    have hlt := h.tok.lt hb
    exact ⟨Below.heap_alloc _ _ _ hlt, fun o => by simp only [Gh.mark]; rw [if_neg (by omega)]⟩) h.tok.oj

theorem Ext.mark {gl : Nat → List AV} {w0 w : World} {G : Gh} {σ : Sto} (h : Inv gl w0 G σ w) (vs : Array Value) (ty : TypeId) :
    Ext G σ w (G.mark w.heap.size vs) σ (w.alloc (.cells vs ty)) where
  le := Gh.le_mark h vs
  size := by simp
  keep := fun b hb ho => ⟨Below.heap_alloc _ _ _ hb, fun o => by simp only [Gh.mark]; rw [if_neg (by omega)], ho⟩
  next := Nat.le_refl _

/-- A new object of the store. -/
def Gh.new (G : Gh) (id : Nat) (B : Blk) : Gh := ⟨fun i => if i = id then some B else G.j i, G.I, G.T⟩

theorem Gh.le_new {G : Gh} {id : Nat} (B : Blk) (hf : G.j id = none) : G.le (G.new id B) :=
  ⟨fun i B' hi => by
    simp only [Gh.new]
    split
    · rename_i e; subst e; rw [hf] at hi; cases hi
    · exact hi, fun _ _ _ h => h, Gh.same_T rfl⟩

/-- The store gets object 'o' under the number 'id' (new, or reserved before), in a new block. -/
theorem Inv.new {gl : Nat → List AV} {w0 w : World} {G : Gh} {σ : Sto} (h : Inv gl w0 G σ w) (id nx : Nat) (o : AObj) (B : Blk) (ob : Obj) (hid : id < nx) (hnx : σ.next ≤ nx) (hf : G.j id = none) (hB : B.b = w.heap.size)
    (hok : ObjOK (G.new id B) B (w.alloc ob) o) :
    Inv gl w0 (G.new id B) ⟨fun i => if i = id then some o else σ.get i, nx⟩ (w.alloc ob) where
  below := h.below.alloc h.base_le _
  imm := fun b k v hv => by
    have hv : G.I b k = some v := hv
    rw [World.cell?_alloc_lt (h := h.imm_lt hv)]; exact h.imm b k v hv
  gl := fun g k c hc => (h.gl g k c hc).imp fun v hv => ⟨hv.1, hv.2.mono (Gh.le_new B hf)⟩
  live := fun i o' hi => by
    simp only at hi
    show i < nx
    split at hi
    · omega
    · exact Nat.lt_of_lt_of_le (h.live i o' hi) hnx
  obj := fun i o' B' h1 h2 => by
    simp only [Gh.new] at h1 h2
    by_cases e : i = id
    · subst e
      rw [if_pos rfl] at h1 h2
      cases h1; cases h2
      exact ⟨by rw [hB]; exact h.base_le, hok⟩
    · rw [if_neg e] at h1 h2
      have hb := (h.obj i o' B' h1 h2).2.lt
      exact ⟨(h.obj i o' B' h1 h2).1, (h.obj i o' B' h1 h2).2.keep (Gh.le_new B hf) (Below.heap_alloc _ _ _ hb) fun k => rfl⟩
  fresh := fun i hi => by
    simp only [Gh.new] at hi ⊢
    rw [if_neg (by omega)]; exact h.fresh i (by omega)
  inj := fun i i' o1 o2 B1 B2 h1 h2 h3 h4 hb => by
    simp only [Gh.new] at h1 h2 h3 h4
    by_cases e : i = id <;> by_cases e' : i' = id
    · rw [e, e']
    · rw [if_pos e] at h3; cases h3
      rw [if_neg e'] at h2 h4
      have := (h.obj i' o2 B2 h2 h4).2.lt
      omega
    · rw [if_pos e'] at h4; cases h4
      rw [if_neg e] at h1 h3
      have := (h.obj i o1 B1 h1 h3).2.lt
      omega
    · rw [if_neg e] at h1 h3
      rw [if_neg e'] at h2 h4
      exact h.inj i i' o1 o2 B1 B2 h1 h2 h3 h4 hb
  has := fun i o1 h1 hn => by
    simp only [Gh.new] at h1 ⊢
    by_cases e : i = id
    · rw [if_pos e]; exact ⟨B, rfl⟩
    · rw [if_neg e] at h1 ⊢; exact h.has i o1 h1 hn
  freshT := fun i hi => h.freshT i (Nat.le_trans hnx hi)
  tok := h.tok.step rfl (fun i es n hi => by
      simp only at hi
      split at hi
      · cases hi; exact hok.elim
      · exact hi) (fun i b hb => ⟨Below.heap_alloc _ _ _ (h.tok.lt hb), fun _ => rfl⟩) (fun i b hb i' o1 B1 h1 h2 => by
      simp only [Gh.new] at h1 h2
      by_cases e : i' = id
      · rw [if_pos e] at h2; cases h2
        have := h.tok.lt hb; omega
      · rw [if_neg e] at h1 h2; exact h.tok.oj i b hb i' o1 B1 h1 h2)

theorem Ext.new {gl : Nat → List AV} {w0 w : World} {G : Gh} {σ : Sto} (h : Inv gl w0 G σ w) (nx : Nat) (o : AObj) (B : Blk) (ob : Obj) (hnx : σ.next < nx) (hB : B.b = w.heap.size) :
    Ext G σ w (G.new σ.next B) ⟨fun i => if i = σ.next then some o else σ.get i, nx⟩ (w.alloc ob) where
  le := Gh.le_new B (h.fresh _ (Nat.le_refl _))
  size := by simp
  keep := fun b hb ho => ⟨Below.heap_alloc _ _ _ hb, fun _ => rfl, by
    rintro (⟨i, o', B', h1, h2, h3⟩ | ⟨i, es, n, T, o', h1, h2, h3⟩)
    · simp only [Gh.new] at h1 h2
      by_cases e : i = σ.next
      · rw [if_pos e] at h2; cases h2; omega
      · rw [if_neg e] at h1 h2; exact ho (.inl ⟨i, o', B', h1, h2, h3⟩)
    · simp only at h1
      split at h1
      · rename_i e
        have h2 : G.T i = some T := h2
        rw [h.freshT i (by omega)] at h2; cases h2
      · exact ho (.inr ⟨i, es, n, T, o', h1, h2, h3⟩)⟩
  next := Nat.le_of_lt hnx

/-- A block of the store's own is written: the object there is another one now. -/
theorem Inv.set {gl : Nat → List AV} {w0 w w' : World} {G : Gh} {σ : Sto} (h : Inv gl w0 G σ w) (id : Nat) (o o' : AObj) (B : Blk) (ho : σ.get id = some o) (hj : G.j id = some B)
    (hos : w'.os = w.os) (ht : w'.tape = w.tape) (hu : w'.output = w.output) (hz : w'.heap.size = w.heap.size) (hk : ∀ b, b ≠ B.b → w'.heap[b]? = w.heap[b]?)
    (hc : ∀ k v, G.I B.b k = some v → w'.cell? ⟨B.b, k, none⟩ = some v) (hok : ObjOK G B w' o') : Inv gl w0 G (σ.set id o') w' where
  below := h.below.trans ⟨hos, ht, hu, by omega, fun k hk' => hk k (by have := (h.obj id o B ho hj).1; omega)⟩
  imm := fun b k v hv => by
    by_cases e : b = B.b
    · subst e; exact hc k v hv
    · exact (World.cell?_of_block (w := w) (a := ⟨b, k, none⟩) (hk b e)).trans (h.imm b k v hv)
  gl := h.gl
  live := fun i o2 hi => by
    simp only [Sto.set] at hi ⊢
    split at hi
    · rename_i e; subst e; exact h.live _ o ho
    · exact h.live i o2 hi
  obj := fun i o2 B2 h1 h2 => by
    simp only [Sto.set] at h1
    by_cases e : i = id
    · subst e; rw [if_pos rfl] at h1; cases h1
      rw [hj] at h2; cases h2
      exact ⟨(h.obj i o B ho hj).1, hok⟩
    · rw [if_neg e] at h1
      refine ⟨(h.obj i o2 B2 h1 h2).1, (h.obj i o2 B2 h1 h2).2.keep (.refl G) (hk _ fun e2 => e ?_) fun _ => rfl⟩
      exact h.inj i id o2 o B2 B h1 ho h2 hj e2
  fresh := h.fresh
  inj := fun i i' o1 o2 B1 B2 h1 h2 h3 h4 hb => by
    have g : ∀ i o1, (σ.set id o').get i = some o1 → ∃ o1', σ.get i = some o1' := by
      intro i o1 h1
      simp only [Sto.set] at h1
      split at h1
      · rename_i e; subst e; exact ⟨o, ho⟩
      · exact ⟨o1, h1⟩
    obtain ⟨p, hp⟩ := g i o1 h1
    obtain ⟨q, hq⟩ := g i' o2 h2
    exact h.inj i i' p q B1 B2 hp hq h3 h4 hb
  has := fun i o1 h1 hn => by
    simp only [Sto.set] at h1
    by_cases e : i = id
    · subst e; exact ⟨B, hj⟩
    · rw [if_neg e] at h1; exact h.has i o1 h1 hn
  freshT := h.freshT
  tok := by
    refine h.tok.step rfl (fun i es n hi => ?_) (fun i b hb => ⟨hk b (fun e => h.tok.oj i b hb id o B ho hj e.symm), fun _ => rfl⟩) (fun i b hb i' o1 B1 h1 h2 => ?_)
    · simp only [Sto.set] at hi
      split at hi
      · cases hi; exact hok.elim
      · exact hi
    · simp only [Sto.set] at h1
      by_cases e : i' = id
      · subst e; exact h.tok.oj i b hb i' o B1 ho h2
      · rw [if_neg e] at h1; exact h.tok.oj i b hb i' o1 B1 h1 h2

theorem Ext.set {w w' : World} {G : Gh} {σ : Sto} (id : Nat) (o o' : AObj) (B : Blk) (ho : σ.get id = some o) (hj : G.j id = some B) (hz : w'.heap.size = w.heap.size) (hk : ∀ b, b ≠ B.b → w'.heap[b]? = w.heap[b]?) (hnt : ∀ es n, o' ≠ .tok es n := by intro es n h; cases h) :
    Ext G σ w G (σ.set id o') w' where
  le := .refl G
  size := by omega
  keep := fun b hb hn => by
    have hne : b ≠ B.b := fun e => hn (.inl ⟨id, o, B, ho, hj, e.symm⟩)
    refine ⟨hk b hne, fun _ => rfl, ?_⟩
    rintro (⟨i, o2, B2, h1, h2, h3⟩ | ⟨i, es, n, T, k, h1, h2, h3⟩)
    · simp only [Sto.set] at h1
      by_cases e : i = id
      · subst e; rw [hj] at h2; cases h2; exact hne h3.symm
      · rw [if_neg e] at h1; exact hn (.inl ⟨i, o2, B2, h1, h2, h3⟩)
    · simp only [Sto.set] at h1
      split at h1
      · cases h1; exact absurd rfl (hnt es n)
      · exact hn (.inr ⟨i, es, n, T, k, h1, h2, h3⟩)
  next := Nat.le_refl _

/-- A store that has forgotten objects. -/
structure Sto.le (σ σ1 : Sto) : Prop where
  next : σ1.next = σ.next
  get : ∀ i, σ1.get i = σ.get i ∨ σ1.get i = Option.none

theorem Sto.le.refl (σ : Sto) : σ.le σ := ⟨rfl, fun _ => .inl rfl⟩
theorem Sto.le.some {σ σ1 : Sto} (h : σ.le σ1) {i : Nat} {o : AObj} (hi : σ1.get i = Option.some o) : σ.get i = Option.some o := by
  rcases h.get i with e | e
  · rw [← e]; exact hi
  · rw [e] at hi; cases hi

theorem Inv.forget {gl : Nat → List AV} {w0 w : World} {G : Gh} {σ σ1 : Sto} (h : Inv gl w0 G σ w) (hl : σ.le σ1) : Inv gl w0 G σ1 w where
  below := h.below
  imm := h.imm
  gl := h.gl
  live := fun i o hi => by rw [hl.next]; exact h.live i o (hl.some hi)
  obj := fun i o B hi => h.obj i o B (hl.some hi)
  fresh := fun i hi => h.fresh i (by rw [← hl.next]; exact hi)
  inj := fun i i' o o' B B' h1 h2 => h.inj i i' o o' B B' (hl.some h1) (hl.some h2)
  has := fun i o hi => h.has i o (hl.some hi)
  freshT := fun i hi => h.freshT i (by rw [← hl.next]; exact hi)
  tok := h.tok.step rfl (fun _ _ _ x => hl.some x) (fun _ _ _ => ⟨rfl, fun _ => rfl⟩) (fun i b hb i' o B h1 => h.tok.oj i b hb i' o B (hl.some h1))

theorem Ext.forget {G : Gh} {σ σ1 : Sto} {w : World} (hl : σ.le σ1) : Ext G σ w G σ1 w where
  le := .refl G
  size := Nat.le_refl _
  keep := fun b hb hn => ⟨rfl, fun _ => rfl, by
    rintro (⟨i, o, B, h1, h2, h3⟩ | ⟨i, es, n, T, k, h1, h2⟩)
    · exact hn (.inl ⟨i, o, B, hl.some h1, h2, h3⟩)
    · exact hn (.inr ⟨i, es, n, T, k, hl.some h1, h2⟩)⟩
  next := by rw [hl.next]; exact Nat.le_refl _

end Go.Lg
