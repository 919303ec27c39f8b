/- Lg, part A: abstract values, ghost state, representation, the invariant that ties a store to a world, and its steps. No program in sight. -/
import Derived.Below
import Derived.CallsIn
import Derived.LoopNIn
import Derived.Laws.World
import Derived.Laws.Rows
import Derived.Laws.AppendOwn
import Derived.Laws.CopyRow
import Derived.Laws.Entries
import Derived.IntWalk
import Derived.RangeFuncLeaves
import Derived.RangeFuncRecord
import Derived.Laws.BytesString
import Derived.MapKept
import Derived.Laws.StructEq
set_option linter.unusedVariables false
set_option linter.unusedSimpArgs false
namespace Go.Lg
open Go.RowKit
inductive AV where
  | undef
  | bool (b : Bool)
  | int (k : IntKind) (n : Int)
  | str (s : ByteArray)
  | list (full : Bool) (xs : List AV)
  | own (id : Nat) (xs : List AV)
  | row (id off len : Nat)
  | ptr (id k : Nat)
  | rptr (id i k : Nat)
  | eptr (cells : List AV) (k : Nat)
  | nilp
  | agg (cs : List AV)
  | tup (vs : List AV)
  | fn (f : FuncId) (caps : List AV)
  | yld (l : Nat)
  | nilf
  | map (id : Nat)
  | nilm
  | iface (t : TypeId) (v : AV)
  | nili
  deriving Inhabited
def AV.cells : AV → List AV
  | .agg cs => cs
  | v => [v]
def AV.one : AV → Bool
  | .agg _ | .tup _ | .undef => false
  | _ => true
structure Blk where
  b : Nat
  o0 : Nat
  sz : Nat
  es : Nat
structure Tk where
  n : Nat
  a : Option Addr
  cap : Nat
structure Gh where
  j : Nat → Option Blk
  I : Nat → Nat → Option Value
  T : Nat → Option Tk
structure Gh.le (G G' : Gh) : Prop where
  j : ∀ id B, G.j id = some B → G'.j id = some B
  I : ∀ b o v, G.I b o = some v → G'.I b o = some v
  T : ∀ id T, G.T id = some T → ∃ T', G'.T id = some T' ∧ T.n ≤ T'.n ∧ (T'.n = T.n → T' = T)
theorem Gh.same_T {G G' : Gh} (h : G'.T = G.T) : ∀ id T, G.T id = some T → ∃ T', G'.T id = some T' ∧ T.n ≤ T'.n ∧ (T'.n = T.n → T' = T) := fun id T hT => ⟨T, by rw [h]; exact hT, Nat.le_refl _, fun _ => rfl⟩
theorem Gh.le.refl (G : Gh) : G.le G := ⟨fun _ _ h => h, fun _ _ _ h => h, Gh.same_T rfl⟩
theorem Gh.le.trans {A B C : Gh} (h : A.le B) (k : B.le C) : A.le C := ⟨fun _ _ x => k.j _ _ (h.j _ _ x), fun _ _ _ x => k.I _ _ _ (h.I _ _ _ x), fun id T hT => by
  obtain ⟨T1, h1, h2, h3⟩ := h.T id T hT
  obtain ⟨T2, k1, k2, k3⟩ := k.T id T1 h1
  refine ⟨T2, k1, Nat.le_trans h2 k2, fun e => ?_⟩
  have e1 : T1.n = T.n := by omega
  have e2 := h3 e1
  subst e2
  exact k3 (by omega)⟩
def TokFit (G : Gh) (id n : Nat) (v : Value) : Prop := ∃ T, G.T id = some T ∧ n ≤ T.n ∧ (T.n = n → v = .slice T.a n T.cap)
theorem TokFit.mono {G G' : Gh} {id n : Nat} {v : Value} (h : TokFit G id n v) (le : G.le G') : TokFit G' id n v := by
  obtain ⟨T, h1, h2, h3⟩ := h
  obtain ⟨T', k1, k2, k3⟩ := le.T id T h1
  refine ⟨T', k1, Nat.le_trans h2 k2, fun e => ?_⟩
  have e1 : T'.n = T.n := by omega
  have e2 := k3 e1
  subst e2
  exact h3 e
inductive Rep (G : Gh) : AV → Value → Prop
  | undef (v : Value) : Rep G .undef v
  | bool (b : Bool) : Rep G (.bool b) (.bool b)
  | int (k : IntKind) (n : Int) : Rep G (.int k n) (.int k n)
  | str (s : ByteArray) : Rep G (.str s) (.string s)
  | list0 (full : Bool) (a : Option Addr) (cap : Nat) (h : full = true → cap = 0) : Rep G (.list full []) (.slice a 0 cap)
  | list (full : Bool) (xs : List AV) (b o len cap es : Nat) (vs : Nat → Nat → Value) (hl : xs.length = len) (hc : len ≤ cap) (hf : full = true → cap = len)
      (hs : ∀ (i : Nat) (x : AV), xs[i]? = some x → x.cells.length = es) (hI : ∀ i k, i < len → k < es → G.I b (o + (i * es + k)) = some (vs i k))
      (hv : ∀ (i : Nat) (x : AV) (k : Nat) (c : AV), xs[i]? = some x → x.cells[k]? = some c → Rep G c (vs i k)) : Rep G (.list full xs) (.slice (some ⟨b, o, none⟩) len cap)
  | own (id : Nat) (xs : List AV) (v : Value) (h : Rep G (.list false xs) v) (ht : TokFit G id xs.length v) : Rep G (.own id xs) v
  | row (id off len cap o : Nat) (B : Blk) (hj : G.j id = some B) (hc : len ≤ cap) (h : (o = B.o0 + off * B.es ∧ o + cap * B.es = B.sz) ∨ (len = 0 ∧ cap = 0)) :
      Rep G (.row id off len) (.slice (some ⟨B.b, o, none⟩) len cap)
  | ptr (id k : Nat) (B : Blk) (hj : G.j id = some B) : Rep G (.ptr id k) (.pointer (some ⟨B.b, k, none⟩))
  | rptr (id i k : Nat) (B : Blk) (hj : G.j id = some B) : Rep G (.rptr id i k) (.pointer (some ⟨B.b, B.o0 + i * B.es + k, none⟩))
  | eptr (cells : List AV) (k b o : Nat) (vs : Nat → Value) (hI : ∀ i, i < cells.length → G.I b (o + i) = some (vs i))
      (hv : ∀ (i : Nat) (c : AV), cells[i]? = some c → Rep G c (vs i)) : Rep G (.eptr cells k) (.pointer (some ⟨b, o + k, none⟩))
  | nilp : Rep G .nilp (.pointer none)
  | agg (cs : List AV) (vs : Array Value) (hl : vs.size = cs.length) (hv : ∀ (i : Nat) (c : AV) (v : Value), cs[i]? = some c → vs[i]? = some v → Rep G c v) : Rep G (.agg cs) (.agg vs)
  | tup (cs : List AV) (vs : Array Value) (hl : vs.size = cs.length) (hv : ∀ (i : Nat) (c : AV) (v : Value), cs[i]? = some c → vs[i]? = some v → Rep G c v) : Rep G (.tup cs) (.tuple vs)
  | fn (f : FuncId) (cs : List AV) (vs : Array Value) (hl : vs.size = cs.length) (hv : ∀ (i : Nat) (c : AV) (v : Value), cs[i]? = some c → vs[i]? = some v → Rep G c v) : Rep G (.fn f cs) (.func (.func f) #[] vs)
  | yld (l : Nat) (B : Blk) (hj : G.j l = some B) : Rep G (.yld l) (.func (.yield B.b) #[] #[])
  | nilf : Rep G .nilf .nilFunc
  | map (id : Nat) (B : Blk) (hj : G.j id = some B) : Rep G (.map id) (.map (some B.b))
  | nilm : Rep G .nilm (.map none)
  | iface (t : TypeId) (a : AV) (v : Value) (h : Rep G a v) : Rep G (.iface t a) (.iface t v)
  | nili : Rep G .nili .nilIface
theorem Rep.mono {G G' : Gh} {a : AV} {v : Value} (h : Rep G a v) (le : G.le G') : Rep G' a v := by
  induction h with
  | undef v => exact .undef v
  | bool b => exact .bool b
  | int k n => exact .int k n
  | str s => exact .str s
  | list0 f a c h => exact .list0 f a c h
  | list full xs b o len cap es vs hl hc hf hs hI hv ih => exact .list full xs b o len cap es vs hl hc hf hs (fun i k hi hk => le.I _ _ _ (hI i k hi hk)) ih
  | own id xs v h ht ih => exact .own id xs v ih (ht.mono le)
  | row id off len cap o B hj hc h => exact .row id off len cap o B (le.j _ _ hj) hc h
  | ptr id k B hj => exact .ptr id k B (le.j _ _ hj)
  | rptr id i k B hj => exact .rptr id i k B (le.j _ _ hj)
  | eptr cells k b o vs hI hv ih => exact .eptr cells k b o vs (fun i hi => le.I _ _ _ (hI i hi)) ih
  | nilp => exact .nilp
  | agg cs vs hl hv ih => exact .agg cs vs hl ih
  | tup cs vs hl hv ih => exact .tup cs vs hl ih
  | fn f cs vs hl hv ih => exact .fn f cs vs hl ih
  | yld l B hj => exact .yld l B (le.j _ _ hj)
  | nilf => exact .nilf
  | map id B hj => exact .map id B (le.j _ _ hj)
  | nilm => exact .nilm
  | iface t a v h ih => exact .iface t a v ih
  | nili => exact .nili
inductive Closed : AV → Prop
  | undef : Closed .undef
  | bool (b : Bool) : Closed (.bool b)
  | int (k : IntKind) (n : Int) : Closed (.int k n)
  | str (s : ByteArray) : Closed (.str s)
  | list (full : Bool) (xs : List AV) (h : ∀ x ∈ xs, ∀ c ∈ x.cells, Closed c) : Closed (.list full xs)
  | eptr (cells : List AV) (k : Nat) (h : ∀ c ∈ cells, Closed c) : Closed (.eptr cells k)
  | nilp : Closed .nilp
  | agg (cs : List AV) (h : ∀ c ∈ cs, Closed c) : Closed (.agg cs)
  | tup (cs : List AV) (h : ∀ c ∈ cs, Closed c) : Closed (.tup cs)
  | fn (f : FuncId) (cs : List AV) (h : ∀ c ∈ cs, Closed c) : Closed (.fn f cs)
  | nilf : Closed .nilf
  | nilm : Closed .nilm
  | iface (t : TypeId) (v : AV) (h : Closed v) : Closed (.iface t v)
  | nili : Closed .nili
theorem mem_of_get {α : Type} {xs : List α} {i : Nat} {x : α} (h : xs[i]? = some x) : x ∈ xs := List.mem_of_getElem? h
theorem Rep.closed {G G' : Gh} {a : AV} {v : Value} (h : Rep G a v) (hI : ∀ b o v, G.I b o = some v → G'.I b o = some v) (hc : Closed a) : Rep G' a v := by
  induction h with
  | undef v => exact .undef v
  | bool b => exact .bool b
  | int k n => exact .int k n
  | str s => exact .str s
  | list0 f a c h => exact .list0 f a c h
  | list full xs b o len cap es vs hl hc' hf hs hI' hv ih =>
    cases hc with
    | list _ _ hx => exact .list full xs b o len cap es vs hl hc' hf hs (fun i k hi hk => hI _ _ _ (hI' i k hi hk)) (fun i x k c h1 h2 => ih i x k c h1 h2 (hx x (mem_of_get h1) c (mem_of_get h2)))
  | own => cases hc
  | row => cases hc
  | ptr => cases hc
  | rptr => cases hc
  | eptr cells k b o vs hI' hv ih =>
    cases hc with
    | eptr _ _ hx => exact .eptr cells k b o vs (fun i hi => hI _ _ _ (hI' i hi)) (fun i c h1 => ih i c h1 (hx c (mem_of_get h1)))
  | nilp => exact .nilp
  | agg cs vs hl hv ih => cases hc with | agg _ hx => exact .agg cs vs hl (fun i c v h1 h2 => ih i c v h1 h2 (hx c (mem_of_get h1)))
  | tup cs vs hl hv ih => cases hc with | tup _ hx => exact .tup cs vs hl (fun i c v h1 h2 => ih i c v h1 h2 (hx c (mem_of_get h1)))
  | fn f cs vs hl hv ih => cases hc with | fn _ _ hx => exact .fn f cs vs hl (fun i c v h1 h2 => ih i c v h1 h2 (hx c (mem_of_get h1)))
  | yld => cases hc
  | nilf => exact .nilf
  | map => cases hc
  | nilm => exact .nilm
  | iface t a v h ih => cases hc with | iface _ _ hx => exact .iface t a v (ih hx)
  | nili => exact .nili
structure LoopI where
  nt : Nat
  env : Nat → AV
  ps : Array Tmp
  assign : Code
  body : Code
inductive AObj where
  | box (cells : List AV)
  | row (es : Nat) (elems : List AV) (froz : Bool)
  | tok (es n : Nat)
  | loop (L : LoopI) (st : LoopState) (pe : Option Code)
  | mp (es : List (AV × AV))
  | itr (s : ByteArray) (pos : Nat)
structure Sto where
  get : Nat → Option AObj
  next : Nat
def Sto.none : Sto := ⟨fun _ => Option.none, 0⟩
def Sto.set (σ : Sto) (id : Nat) (o : AObj) : Sto := ⟨fun i => if i = id then some o else σ.get i, σ.next⟩
def Sto.add (σ : Sto) (o : AObj) : Sto := ⟨fun i => if i = σ.next then some o else σ.get i, σ.next + 1⟩
def Sto.del (σ : Sto) (id : Nat) : Sto := ⟨fun i => if i = id then Option.none else σ.get i, σ.next⟩
def AV.pv1 : AV → Option Value
  | .bool b => some (.bool b)
  | .int k n => some (.int k n)
  | .str s => some (.string s)
  | _ => Option.none
def AV.pvL : List AV → Option (List Value)
  | [] => some []
  | a :: l => match a.pv1, AV.pvL l with
    | some v, some vs => some (v :: vs)
    | _, _ => Option.none
def AV.pv : AV → Option Value
  | .agg cs => (AV.pvL cs).map fun l => .agg l.toArray
  | a => a.pv1
def ObjOK (G : Gh) (B : Blk) (w : World) : AObj → Prop
  | .box cells => ∃ (vs : Array Value) (ty : TypeId), w.heap[B.b]? = some (.cells vs ty (0, 0)) ∧ vs.size = cells.length ∧ (∀ (i : Nat) (c : AV), cells[i]? = some c → ∃ v : Value, vs[i]? = some v ∧ Rep G c v) ∧ ∀ k : Nat, G.I B.b k = Option.none
  | .row es elems froz => ∃ (vs : Array Value) (ty : TypeId), w.heap[B.b]? = some (.cells vs ty (0, 0)) ∧ vs.size = B.sz ∧ B.es = es ∧ B.o0 + elems.length * es ≤ B.sz ∧ (∀ (i : Nat) (x : AV), elems[i]? = some x → x.cells.length = es) ∧
      (∀ (i : Nat) (x : AV) (k : Nat) (c : AV), elems[i]? = some x → x.cells[k]? = some c → ∃ v : Value, vs[B.o0 + i * es + k]? = some v ∧ Rep G c v) ∧
      (∀ k : Nat, B.o0 ≤ k → G.I B.b k = if froz = true ∧ k < B.o0 + elems.length * es then vs[k]? else Option.none)
  | .tok _ _ => False
  | .loop L st pe => ∃ r : Loop, w.heap[B.b]? = some (.loop r) ∧ r.state = st ∧ r.pending = pe ∧ r.params = L.ps ∧ r.assign = L.assign ∧ r.body = L.body ∧ r.tmps.size = L.nt ∧
      (∀ t, t < L.nt → Rep G (L.env t) (r.tmps.getD t undef)) ∧ ∀ k : Nat, G.I B.b k = Option.none
  | .mp es => ∃ (xs : Array MapEntry) (clock : Nat), w.heap[B.b]? = some (.map xs clock) ∧ xs.size = es.length ∧
      (∀ (i : Nat) (e : AV × AV), es[i]? = some e → ∃ m : MapEntry, xs[i]? = some m ∧ e.1.pv = some m.key ∧ Rep G e.2 m.val) ∧ ∀ k : Nat, G.I B.b k = Option.none
  | .itr s pos => w.heap[B.b]? = some (.stringIter s pos) ∧ ∀ k : Nat, G.I B.b k = Option.none
def TokB (G : Gh) (σ : Sto) (id b : Nat) : Prop := ∃ es n T o, σ.get id = some (.tok es n) ∧ G.T id = some T ∧ T.n < T.cap ∧ T.a = some ⟨b, o, none⟩
structure TokInv (w0 : World) (G : Gh) (σ : Sto) (w : World) : Prop where
  ok : ∀ id es n, σ.get id = some (.tok es n) → ∃ T, G.T id = some T ∧ T.n = n ∧ n ≤ T.cap ∧
    (T.n < T.cap → ∃ b o vs ty, T.a = some ⟨b, o, none⟩ ∧ w0.heap.size ≤ b ∧ w.heap[b]? = some (.cells vs ty (0, 0)) ∧ vs.size = o + T.cap * es ∧ ∀ k, o + n * es ≤ k → G.I b k = none)
  inj : ∀ id id' b, TokB G σ id b → TokB G σ id' b → id = id'
  oj : ∀ id b, TokB G σ id b → ∀ id' o B, σ.get id' = some o → G.j id' = some B → B.b ≠ b
theorem TokInv.lt {w0 w : World} {G : Gh} {σ : Sto} (h : TokInv w0 G σ w) {id b : Nat} (hb : TokB G σ id b) : b < w.heap.size := by
  obtain ⟨es, n, T, o, h1, h2, h3, h4⟩ := hb
  obtain ⟨T', k1, k2, k3, k4⟩ := h.ok id es n h1
  rw [h2] at k1; cases k1
  obtain ⟨b', o', vs, ty, g1, g2, g3, _⟩ := k4 h3
  rw [h4] at g1; cases g1
  exact (Array.getElem?_eq_some_iff.1 g3).1
theorem TokInv.step {w0 w w' : World} {G G' : Gh} {σ σ' : Sto} (h : TokInv w0 G σ w) (hT : G'.T = G.T) (hs : ∀ id es n, σ'.get id = some (.tok es n) → σ.get id = some (.tok es n))
    (hk : ∀ id b, TokB G σ id b → w'.heap[b]? = w.heap[b]? ∧ ∀ o, G'.I b o = G.I b o)
    (hj : ∀ id b, TokB G σ id b → ∀ id' o B, σ'.get id' = some o → G'.j id' = some B → B.b ≠ b) : TokInv w0 G' σ' w' := by
  have up : ∀ id b, TokB G' σ' id b → TokB G σ id b := by
    rintro id b ⟨es, n, T, o, h1, h2, h3, h4⟩
    exact ⟨es, n, T, o, hs id es n h1, by rw [← hT]; exact h2, h3, h4⟩
  refine ⟨fun id es n hg => ?_, fun id id' b h1 h2 => h.inj id id' b (up _ _ h1) (up _ _ h2), fun id b h1 => hj id b (up _ _ h1)⟩
  obtain ⟨T, k1, k2, k3, k4⟩ := h.ok id es n (hs id es n hg)
  refine ⟨T, by rw [hT]; exact k1, k2, k3, fun hc => ?_⟩
  obtain ⟨b, o, vs, ty, g1, g2, g3, g4, g5⟩ := k4 hc
  obtain ⟨e1, e2⟩ := hk id b ⟨es, n, T, o, hs id es n hg, k1, hc, g1⟩
  exact ⟨b, o, vs, ty, g1, g2, e1.trans g3, g4, fun k hk' => (e2 k).trans (g5 k hk')⟩
structure Inv (gl : Nat → List AV) (w0 : World) (G : Gh) (σ : Sto) (w : World) : Prop where
  below : Below w0.heap.size w0 w
  imm : ∀ b o v, G.I b o = some v → w.cell? ⟨b, o, none⟩ = some v
  gl : ∀ g k c, (gl g)[k]? = some c → ∃ v, G.I g k = some v ∧ Rep G c v
  live : ∀ id o, σ.get id = some o → id < σ.next
  obj : ∀ id o B, σ.get id = some o → G.j id = some B → w0.heap.size ≤ B.b ∧ ObjOK G B w o
  fresh : ∀ id, σ.next ≤ id → G.j id = none
  inj : ∀ id id' o o' B B', σ.get id = some o → σ.get id' = some o' → G.j id = some B → G.j id' = some B' → B.b = B'.b → id = id'
  has : ∀ id o, σ.get id = some o → (∀ es n, o ≠ .tok es n) → ∃ B, G.j id = some B
  freshT : ∀ id, σ.next ≤ id → G.T id = none
  tok : TokInv w0 G σ w
def Own (G : Gh) (σ : Sto) (b : Nat) : Prop := (∃ id o B, σ.get id = some o ∧ G.j id = some B ∧ B.b = b) ∨ ∃ id, TokB G σ id b
structure Ext (G : Gh) (σ : Sto) (w : World) (G' : Gh) (σ' : Sto) (w' : World) : Prop where
  le : G.le G'
  size : w.heap.size ≤ w'.heap.size
  keep : ∀ b, b < w.heap.size → ¬ Own G σ b → w'.heap[b]? = w.heap[b]? ∧ (∀ o, G'.I b o = G.I b o) ∧ ¬ Own G' σ' b
  next : σ.next ≤ σ'.next
theorem Ext.refl (G : Gh) (σ : Sto) (w : World) : Ext G σ w G σ w :=
  ⟨.refl G, Nat.le_refl _, fun _ _ h => ⟨rfl, fun _ => rfl, h⟩, Nat.le_refl _⟩
theorem Ext.trans {G G1 G2 : Gh} {σ σ1 σ2 : Sto} {w w1 w2 : World} (h : Ext G σ w G1 σ1 w1) (k : Ext G1 σ1 w1 G2 σ2 w2) : Ext G σ w G2 σ2 w2 where
  le := h.le.trans k.le
  size := Nat.le_trans h.size k.size
  keep := fun b hb ho => by
    obtain ⟨a1, a2, a3⟩ := h.keep b hb ho
    obtain ⟨b1, b2, b3⟩ := k.keep b (Nat.lt_of_lt_of_le hb h.size) a3
    exact ⟨b1.trans a1, fun o => (b2 o).trans (a2 o), b3⟩
  next := Nat.le_trans h.next k.next
theorem ObjOK.lt {G : Gh} {B : Blk} {w : World} {o : AObj} (h : ObjOK G B w o) : B.b < w.heap.size := by
  cases o with
  | box cells => obtain ⟨vs, ty, h, _⟩ := h; exact (Array.getElem?_eq_some_iff.1 h).1
  | row es elems froz => obtain ⟨vs, ty, h, _⟩ := h; exact (Array.getElem?_eq_some_iff.1 h).1
  | tok => exact h.elim
  | loop L st pe => obtain ⟨r, h, _⟩ := h; exact (Array.getElem?_eq_some_iff.1 h).1
  | mp es => obtain ⟨xs, c, h, _⟩ := h; exact (Array.getElem?_eq_some_iff.1 h).1
  | itr s pos => exact (Array.getElem?_eq_some_iff.1 h.1).1
theorem Inv.imm_lt {gl : Nat → List AV} {w0 w : World} {G : Gh} {σ : Sto} (h : Inv gl w0 G σ w) {b o : Nat} {v : Value} (hi : G.I b o = some v) : b < w.heap.size :=
  World.block_lt_of_cell? w ⟨b, o, none⟩ (h.imm b o v hi)
theorem ObjOK.keep {G G' : Gh} {B : Blk} {w w' : World} {o : AObj} (h : ObjOK G B w o) (le : G.le G') (hb : w'.heap[B.b]? = w.heap[B.b]?) (hI : ∀ k, G'.I B.b k = G.I B.b k) : ObjOK G' B w' o := by
  cases o with
  | box cells =>
    obtain ⟨vs, ty, h1, h2, h3, h4⟩ := h
    exact ⟨vs, ty, hb.trans h1, h2, fun i c hc => (h3 i c hc).imp fun v hv => ⟨hv.1, hv.2.mono le⟩, fun k => (hI k).trans (h4 k)⟩
  | row es elems froz =>
    obtain ⟨vs, ty, h1, h2, h3, h4, h5, h6, h7⟩ := h
    exact ⟨vs, ty, hb.trans h1, h2, h3, h4, h5, fun i x k c hx hc => (h6 i x k c hx hc).imp fun v hv => ⟨hv.1, hv.2.mono le⟩, fun k hk => (hI k).trans (h7 k hk)⟩
  | tok => exact h.elim
  | loop L st pe =>
    obtain ⟨r, h1, h2, h3, h4, h5, h6, h7, h8, h9⟩ := h
    exact ⟨r, hb.trans h1, h2, h3, h4, h5, h6, h7, fun t ht => (h8 t ht).mono le, fun k => (hI k).trans (h9 k)⟩
  | mp es =>
    obtain ⟨xs, c, h1, h2, h3, h4⟩ := h
    exact ⟨xs, c, hb.trans h1, h2, fun i e he => (h3 i e he).imp fun m hm => ⟨hm.1, hm.2.1, hm.2.2.mono le⟩, fun k => (hI k).trans (h4 k)⟩
  | itr s pos => exact ⟨hb.trans h.1, fun k => (hI k).trans (h.2 k)⟩
theorem Inv.heap {gl : Nat → List AV} {w0 w w' : World} {G : Gh} {σ : Sto} (h : Inv gl w0 G σ w) (hh : w'.heap = w.heap) (ho : w'.os = w.os) (ht : w'.tape = w.tape) (hu : w'.output = w.output) : Inv gl w0 G σ w' where
  below := h.below.trans ⟨ho, ht, hu, by rw [hh]; exact Nat.le_refl _, fun k _ => by rw [hh]⟩
  imm := fun b o v hv => (World.cell?_of_block (w := w) (a := ⟨b, o, none⟩) (by rw [hh])).trans (h.imm b o v hv)
  gl := h.gl
  live := h.live
  obj := fun id o B h1 h2 => ⟨(h.obj id o B h1 h2).1, (h.obj id o B h1 h2).2.keep (.refl G) (by rw [hh]) (fun _ => rfl)⟩
  fresh := h.fresh
  inj := h.inj
  has := h.has
  freshT := h.freshT
  tok := h.tok.step rfl (fun _ _ _ x => x) (fun _ _ _ => ⟨by rw [hh], fun _ => rfl⟩) h.tok.oj
theorem Ext.heap {w w' : World} (G : Gh) (σ : Sto) (hh : w'.heap = w.heap) : Ext G σ w G σ w' :=
  ⟨.refl G, by rw [hh]; exact Nat.le_refl _, fun _ _ h => ⟨by rw [hh], fun _ => rfl, h⟩, Nat.le_refl _⟩
theorem Inv.del {gl : Nat → List AV} {w0 w : World} {G : Gh} {σ : Sto} (h : Inv gl w0 G σ w) (id : Nat) : Inv gl w0 G (σ.del id) w where
  below := h.below
  imm := h.imm
  gl := h.gl
  live := fun i o hi => by
    simp only [Sto.del] at hi ⊢
    split at hi
    · cases hi
    · exact h.live i o hi
  obj := fun i o B hi => by
    simp only [Sto.del] at hi
    split at hi
    · cases hi
    · exact h.obj i o B hi
  fresh := h.fresh
  inj := fun i i' o o' B B' h1 h2 => by
    simp only [Sto.del] at h1 h2
    split at h1
    · cases h1
    · split at h2
      · cases h2
      · exact h.inj i i' o o' B B' h1 h2
  has := fun i o hi => by
    simp only [Sto.del] at hi
    split at hi
    · cases hi
    · exact h.has i o hi
  freshT := h.freshT
  tok := by
    have g : ∀ i o, (σ.del id).get i = some o → σ.get i = some o := fun i o hi => by
      simp only [Sto.del] at hi
      split at hi
      · cases hi
      · exact hi
    exact h.tok.step rfl (fun _ _ _ x => g _ _ x) (fun _ _ _ => ⟨rfl, fun _ => rfl⟩) (fun i b hb i' o B h1 => h.tok.oj i b hb i' o B (g _ _ h1))
def Gh.mark (G : Gh) (b : Nat) (vs : Array Value) : Gh := ⟨G.j, fun b' o => if b' = b then vs[o]? else G.I b' o, G.T⟩
theorem Gh.le_mark {gl : Nat → List AV} {w0 w : World} {G : Gh} {σ : Sto} (h : Inv gl w0 G σ w) (vs : Array Value) : G.le (G.mark w.heap.size vs) := by
  refine ⟨fun _ _ x => x, fun b o v hv => ?_, Gh.same_T rfl⟩
  have hlt := h.imm_lt hv
  simp only [Gh.mark]
  rw [if_neg (by omega)]
  exact hv
theorem Own.lt {gl : Nat → List AV} {w0 w : World} {G : Gh} {σ : Sto} (h : Inv gl w0 G σ w) {b : Nat} (ho : Own G σ b) : b < w.heap.size := by
  rcases ho with ⟨id, o, B, h1, h2, rfl⟩ | ⟨id, hb⟩
  · exact (h.obj id o B h1 h2).2.lt
  · exact h.tok.lt hb
theorem Inv.base_le {gl : Nat → List AV} {w0 w : World} {G : Gh} {σ : Sto} (h : Inv gl w0 G σ w) : w0.heap.size ≤ w.heap.size := h.below.size
theorem Inv.mark {gl : Nat → List AV} {w0 w : World} {G : Gh} {σ : Sto} (h : Inv gl w0 G σ w) (vs : Array Value) (ty : TypeId) :
    Inv gl w0 (G.mark w.heap.size vs) σ (w.alloc (.cells vs ty)) where
  below := h.below.alloc h.base_le _
  imm := fun b o v hv => by
    simp only [Gh.mark] at hv
    split at hv
    · rename_i e; subst e
      rw [World.cell?_alloc_new]; exact hv
    · rw [World.cell?_alloc_lt (h := h.imm_lt hv)]; exact h.imm b o v hv
  gl := fun g k c hc => (h.gl g k c hc).imp fun v hv => ⟨(Gh.le_mark h vs).I _ _ _ hv.1, hv.2.mono (Gh.le_mark h vs)⟩
  live := h.live
  obj := fun id o B h1 h2 => by
    have hb := (h.obj id o B h1 h2).2.lt
    refine ⟨(h.obj id o B h1 h2).1, (h.obj id o B h1 h2).2.keep (Gh.le_mark h vs) (Below.heap_alloc _ _ _ hb) fun k => ?_⟩
    simp only [Gh.mark]; rw [if_neg (by omega)]
  fresh := h.fresh
  inj := h.inj
  has := h.has
  freshT := h.freshT
  tok := h.tok.step rfl (fun _ _ _ x => x) (fun id b hb => by
    have hlt := h.tok.lt hb
    exact ⟨Below.heap_alloc _ _ _ hlt, fun o => by simp only [Gh.mark]; rw [if_neg (by omega)]⟩) h.tok.oj
theorem Ext.mark {gl : Nat → List AV} {w0 w : World} {G : Gh} {σ : Sto} (h : Inv gl w0 G σ w) (vs : Array Value) (ty : TypeId) :
    Ext G σ w (G.mark w.heap.size vs) σ (w.alloc (.cells vs ty)) where
  le := Gh.le_mark h vs
  size := by simp
  keep := fun b hb ho => ⟨Below.heap_alloc _ _ _ hb, fun o => by simp only [Gh.mark]; rw [if_neg (by omega)], ho⟩
  next := Nat.le_refl _
def Gh.new (G : Gh) (id : Nat) (B : Blk) : Gh := ⟨fun i => if i = id then some B else G.j i, G.I, G.T⟩
theorem Gh.le_new {G : Gh} {id : Nat} (B : Blk) (hf : G.j id = none) : G.le (G.new id B) :=
  ⟨fun i B' hi => by
    simp only [Gh.new]
    split
    · rename_i e; subst e; rw [hf] at hi; cases hi
    · exact hi, fun _ _ _ h => h, Gh.same_T rfl⟩
theorem Inv.new {gl : Nat → List AV} {w0 w : World} {G : Gh} {σ : Sto} (h : Inv gl w0 G σ w) (id nx : Nat) (o : AObj) (B : Blk) (ob : Obj) (hid : id < nx) (hnx : σ.next ≤ nx) (hf : G.j id = none) (hB : B.b = w.heap.size)
    (hok : ObjOK (G.new id B) B (w.alloc ob) o) :
    Inv gl w0 (G.new id B) ⟨fun i => if i = id then some o else σ.get i, nx⟩ (w.alloc ob) where
  below := h.below.alloc h.base_le _
  imm := fun b k v hv => by
    have hv : G.I b k = some v := hv
    rw [World.cell?_alloc_lt (h := h.imm_lt hv)]; exact h.imm b k v hv
  gl := fun g k c hc => (h.gl g k c hc).imp fun v hv => ⟨hv.1, hv.2.mono (Gh.le_new B hf)⟩
  live := fun i o' hi => by
    simp only at hi
    show i < nx
    split at hi
    · omega
    · exact Nat.lt_of_lt_of_le (h.live i o' hi) hnx
  obj := fun i o' B' h1 h2 => by
    simp only [Gh.new] at h1 h2
    by_cases e : i = id
    · subst e
      rw [if_pos rfl] at h1 h2
      cases h1; cases h2
      exact ⟨by rw [hB]; exact h.base_le, hok⟩
    · rw [if_neg e] at h1 h2
      have hb := (h.obj i o' B' h1 h2).2.lt
      exact ⟨(h.obj i o' B' h1 h2).1, (h.obj i o' B' h1 h2).2.keep (Gh.le_new B hf) (Below.heap_alloc _ _ _ hb) fun k => rfl⟩
  fresh := fun i hi => by
    simp only [Gh.new] at hi ⊢
    rw [if_neg (by omega)]; exact h.fresh i (by omega)
  inj := fun i i' o1 o2 B1 B2 h1 h2 h3 h4 hb => by
    simp only [Gh.new] at h1 h2 h3 h4
    by_cases e : i = id <;> by_cases e' : i' = id
    · rw [e, e']
    · rw [if_pos e] at h3; cases h3
      rw [if_neg e'] at h2 h4
      have := (h.obj i' o2 B2 h2 h4).2.lt
      omega
    · rw [if_pos e'] at h4; cases h4
      rw [if_neg e] at h1 h3
      have := (h.obj i o1 B1 h1 h3).2.lt
      omega
    · rw [if_neg e] at h1 h3
      rw [if_neg e'] at h2 h4
      exact h.inj i i' o1 o2 B1 B2 h1 h2 h3 h4 hb
  has := fun i o1 h1 hn => by
    simp only [Gh.new] at h1 ⊢
    by_cases e : i = id
    · rw [if_pos e]; exact ⟨B, rfl⟩
    · rw [if_neg e] at h1 ⊢; exact h.has i o1 h1 hn
  freshT := fun i hi => h.freshT i (Nat.le_trans hnx hi)
  tok := h.tok.step rfl (fun i es n hi => by
      simp only at hi
      split at hi
      · cases hi; exact hok.elim
      · exact hi) (fun i b hb => ⟨Below.heap_alloc _ _ _ (h.tok.lt hb), fun _ => rfl⟩) (fun i b hb i' o1 B1 h1 h2 => by
      simp only [Gh.new] at h1 h2
      by_cases e : i' = id
      · rw [if_pos e] at h2; cases h2
        have := h.tok.lt hb; omega
      · rw [if_neg e] at h1 h2; exact h.tok.oj i b hb i' o1 B1 h1 h2)
theorem Ext.new {gl : Nat → List AV} {w0 w : World} {G : Gh} {σ : Sto} (h : Inv gl w0 G σ w) (nx : Nat) (o : AObj) (B : Blk) (ob : Obj) (hnx : σ.next < nx) (hB : B.b = w.heap.size) :
    Ext G σ w (G.new σ.next B) ⟨fun i => if i = σ.next then some o else σ.get i, nx⟩ (w.alloc ob) where
  le := Gh.le_new B (h.fresh _ (Nat.le_refl _))
  size := by simp
  keep := fun b hb ho => ⟨Below.heap_alloc _ _ _ hb, fun _ => rfl, by
    rintro (⟨i, o', B', h1, h2, h3⟩ | ⟨i, es, n, T, o', h1, h2, h3⟩)
    · simp only [Gh.new] at h1 h2
      by_cases e : i = σ.next
      · rw [if_pos e] at h2; cases h2; omega
      · rw [if_neg e] at h1 h2; exact ho (.inl ⟨i, o', B', h1, h2, h3⟩)
    · simp only at h1
      split at h1
      · rename_i e
        have h2 : G.T i = some T := h2
        rw [h.freshT i (by omega)] at h2; cases h2
      · exact ho (.inr ⟨i, es, n, T, o', h1, h2, h3⟩)⟩
  next := Nat.le_of_lt hnx
theorem Inv.set {gl : Nat → List AV} {w0 w w' : World} {G : Gh} {σ : Sto} (h : Inv gl w0 G σ w) (id : Nat) (o o' : AObj) (B : Blk) (ho : σ.get id = some o) (hj : G.j id = some B)
    (hos : w'.os = w.os) (ht : w'.tape = w.tape) (hu : w'.output = w.output) (hz : w'.heap.size = w.heap.size) (hk : ∀ b, b ≠ B.b → w'.heap[b]? = w.heap[b]?)
    (hc : ∀ k v, G.I B.b k = some v → w'.cell? ⟨B.b, k, none⟩ = some v) (hok : ObjOK G B w' o') : Inv gl w0 G (σ.set id o') w' where
  below := h.below.trans ⟨hos, ht, hu, by omega, fun k hk' => hk k (by have := (h.obj id o B ho hj).1; omega)⟩
  imm := fun b k v hv => by
    by_cases e : b = B.b
    · subst e; exact hc k v hv
    · exact (World.cell?_of_block (w := w) (a := ⟨b, k, none⟩) (hk b e)).trans (h.imm b k v hv)
  gl := h.gl
  live := fun i o2 hi => by
    simp only [Sto.set] at hi ⊢
    split at hi
    · rename_i e; subst e; exact h.live _ o ho
    · exact h.live i o2 hi
  obj := fun i o2 B2 h1 h2 => by
    simp only [Sto.set] at h1
    by_cases e : i = id
    · subst e; rw [if_pos rfl] at h1; cases h1
      rw [hj] at h2; cases h2
      exact ⟨(h.obj i o B ho hj).1, hok⟩
    · rw [if_neg e] at h1
      refine ⟨(h.obj i o2 B2 h1 h2).1, (h.obj i o2 B2 h1 h2).2.keep (.refl G) (hk _ fun e2 => e ?_) fun _ => rfl⟩
      exact h.inj i id o2 o B2 B h1 ho h2 hj e2
  fresh := h.fresh
  inj := fun i i' o1 o2 B1 B2 h1 h2 h3 h4 hb => by
    have g : ∀ i o1, (σ.set id o').get i = some o1 → ∃ o1', σ.get i = some o1' := by
      intro i o1 h1
      simp only [Sto.set] at h1
      split at h1
      · rename_i e; subst e; exact ⟨o, ho⟩
      · exact ⟨o1, h1⟩
    obtain ⟨p, hp⟩ := g i o1 h1
    obtain ⟨q, hq⟩ := g i' o2 h2
    exact h.inj i i' p q B1 B2 hp hq h3 h4 hb
  has := fun i o1 h1 hn => by
    simp only [Sto.set] at h1
    by_cases e : i = id
    · subst e; exact ⟨B, hj⟩
    · rw [if_neg e] at h1; exact h.has i o1 h1 hn
  freshT := h.freshT
  tok := by
    refine h.tok.step rfl (fun i es n hi => ?_) (fun i b hb => ⟨hk b (fun e => h.tok.oj i b hb id o B ho hj e.symm), fun _ => rfl⟩) (fun i b hb i' o1 B1 h1 h2 => ?_)
    · simp only [Sto.set] at hi
      split at hi
      · cases hi; exact hok.elim
      · exact hi
    · simp only [Sto.set] at h1
      by_cases e : i' = id
      · subst e; exact h.tok.oj i b hb i' o B1 ho h2
      · rw [if_neg e] at h1; exact h.tok.oj i b hb i' o1 B1 h1 h2
theorem Ext.set {w w' : World} {G : Gh} {σ : Sto} (id : Nat) (o o' : AObj) (B : Blk) (ho : σ.get id = some o) (hj : G.j id = some B) (hz : w'.heap.size = w.heap.size) (hk : ∀ b, b ≠ B.b → w'.heap[b]? = w.heap[b]?) (hnt : ∀ es n, o' ≠ .tok es n := by intro es n h; cases h) :
    Ext G σ w G (σ.set id o') w' where
  le := .refl G
  size := by omega
  keep := fun b hb hn => by
    have hne : b ≠ B.b := fun e => hn (.inl ⟨id, o, B, ho, hj, e.symm⟩)
    refine ⟨hk b hne, fun _ => rfl, ?_⟩
    rintro (⟨i, o2, B2, h1, h2, h3⟩ | ⟨i, es, n, T, k, h1, h2, h3⟩)
    · simp only [Sto.set] at h1
      by_cases e : i = id
      · subst e; rw [hj] at h2; cases h2; exact hne h3.symm
      · rw [if_neg e] at h1; exact hn (.inl ⟨i, o2, B2, h1, h2, h3⟩)
    · simp only [Sto.set] at h1
      split at h1
      · cases h1; exact absurd rfl (hnt es n)
      · exact hn (.inr ⟨i, es, n, T, k, h1, h2, h3⟩)
  next := Nat.le_refl _
structure Sto.le (σ σ1 : Sto) : Prop where
  next : σ1.next = σ.next
  get : ∀ i, σ1.get i = σ.get i ∨ σ1.get i = Option.none
theorem Sto.le.refl (σ : Sto) : σ.le σ := ⟨rfl, fun _ => .inl rfl⟩
theorem Sto.le.some {σ σ1 : Sto} (h : σ.le σ1) {i : Nat} {o : AObj} (hi : σ1.get i = Option.some o) : σ.get i = Option.some o := by
  rcases h.get i with e | e
  · rw [← e]; exact hi
  · rw [e] at hi; cases hi
theorem Inv.forget {gl : Nat → List AV} {w0 w : World} {G : Gh} {σ σ1 : Sto} (h : Inv gl w0 G σ w) (hl : σ.le σ1) : Inv gl w0 G σ1 w where
  below := h.below
  imm := h.imm
  gl := h.gl
  live := fun i o hi => by rw [hl.next]; exact h.live i o (hl.some hi)
  obj := fun i o B hi => h.obj i o B (hl.some hi)
  fresh := fun i hi => h.fresh i (by rw [← hl.next]; exact hi)
  inj := fun i i' o o' B B' h1 h2 => h.inj i i' o o' B B' (hl.some h1) (hl.some h2)
  has := fun i o hi => h.has i o (hl.some hi)
  freshT := fun i hi => h.freshT i (by rw [← hl.next]; exact hi)
  tok := h.tok.step rfl (fun _ _ _ x => hl.some x) (fun _ _ _ => ⟨rfl, fun _ => rfl⟩) (fun i b hb i' o B h1 => h.tok.oj i b hb i' o B (hl.some h1))
theorem Ext.forget {G : Gh} {σ σ1 : Sto} {w : World} (hl : σ.le σ1) : Ext G σ w G σ1 w where
  le := .refl G
  size := Nat.le_refl _
  keep := fun b hb hn => ⟨rfl, fun _ => rfl, by
    rintro (⟨i, o, B, h1, h2, h3⟩ | ⟨i, es, n, T, k, h1, h2⟩)
    · exact hn (.inl ⟨i, o, B, hl.some h1, h2, h3⟩)
    · exact hn (.inr ⟨i, es, n, T, k, hl.some h1, h2⟩)⟩
  next := by rw [hl.next]; exact Nat.le_refl _
end Go.Lg
/- Lg, part B: the operations that call nothing: what each does to abstract values, and that the model does it. -/
namespace Go.Lg
open Go.RowKit
structure TyI where
  desc : TypeDesc
  size : Nat
  bytes : Nat
  zero : Value
structure Cx where
  P : Program
  gl : Nat → List AV
  ty : TypeId → Option TyI
  ok : ∀ t i, ty t = some i → P.underlying t = some i.desc ∧ ∃ r, P.info? t = some r ∧ r.size = i.size ∧ r.bytes = i.bytes ∧ r.zero = some i.zero
  glc : ∀ g c, c ∈ gl g → Closed c
section
variable {C : Cx} {t : TypeId} {i : TyI}
theorem Cx.run_und (h : C.ty t = some i) (w : World) : (underlying t).run C.P w = .ok i.desc w := run_underlying (C.ok t i h).1 w
theorem Cx.run_size (h : C.ty t = some i) (w : World) : (sizeOf t).run C.P w = .ok i.size w := by
  obtain ⟨_, r, h1, h2, _⟩ := C.ok t i h
  simp [sizeOf, typeInfo, h1, h2]
theorem Cx.run_zero (h : C.ty t = some i) (w : World) : (zeroValue t).run C.P w = .ok i.zero w := by
  obtain ⟨_, r, h1, h2, h3, h4⟩ := C.ok t i h
  simp [zeroValue, typeInfo, h1, h4]
def isAggD : TypeDesc → Bool
  | .struct _ | .array _ _ => true
  | _ => false
theorem Cx.run_isAgg (h : C.ty t = some i) (w : World) : (isAgg t).run C.P w = .ok (isAggD i.desc) w := by
  simp only [isAgg, Sem.run_bind, C.run_und h, Result.andThen_ok]
  cases i.desc <;> rfl
end
def ofV1 : Value → AV
  | .bool b => .bool b
  | .int k n => .int k n
  | .string s => .str s
  | .slice none 0 0 => .list true []
  | .pointer none => .nilp
  | .map none => .nilm
  | .nilIface => .nili
  | .nilFunc => .nilf
  | _ => .undef
def ofV : Value → AV
  | .agg cs => .agg (cs.toList.map ofV1)
  | v => ofV1 v
theorem rep_ofV1 (G : Gh) (v : Value) : Rep G (ofV1 v) v := by
  unfold ofV1
  split
  · exact .bool _
  · exact .int _ _
  · exact .str _
  · exact .list0 true none 0 (fun _ => rfl)
  · exact .nilp
  · exact .nilm
  · exact .nili
  · exact .nilf
  · exact .undef _
theorem rep_ofV (G : Gh) (v : Value) : Rep G (ofV v) v := by
  unfold ofV
  split
  · rename_i cs
    refine .agg _ cs (by simp) fun i c v h1 h2 => ?_
    simp only [List.getElem?_map, Array.getElem?_toList, h2, Option.map_some, Option.some.injEq] at h1
    exact h1 ▸ rep_ofV1 G v
  · exact rep_ofV1 G _
def AV.def : AV → Bool
  | .undef => false
  | _ => true
theorem Rep.cells {G : Gh} {a : AV} {v : Value} (h : Rep G a v) (hd : a.def = true) : v.cells.size = a.cells.length ∧ ∀ (i : Nat) (c : AV), a.cells[i]? = some c → ∃ u : Value, v.cells[i]? = some u ∧ Rep G c u := by
  have one : ∀ (a : AV) (v : Value), Rep G a v → a.cells = [a] → v.cells = #[v] → v.cells.size = a.cells.length ∧ ∀ (i : Nat) (c : AV), a.cells[i]? = some c → ∃ u : Value, v.cells[i]? = some u ∧ Rep G c u := by
    intro a v h e1 e2
    rw [e1, e2]
    refine ⟨rfl, fun i c hc => ?_⟩
    cases i with
    | zero => simp at hc; subst hc; exact ⟨v, by simp, h⟩
    | succ i => simp at hc
  cases h with
  | undef => simp [AV.def] at hd
  | agg cs vs hl hv =>
    refine ⟨hl, fun i c hc => ?_⟩
    have hi : i < vs.size := by rw [hl]; exact (List.getElem?_eq_some_iff.1 hc).1
    exact ⟨vs[i], by simp [Value.cells, hi], hv i c _ hc (by simp [hi])⟩
  | bool => exact one _ _ (.bool _) rfl rfl
  | int => exact one _ _ (.int _ _) rfl rfl
  | str => exact one _ _ (.str _) rfl rfl
  | list0 f a c h => exact one _ _ (.list0 f a c h) rfl rfl
  | list full xs b o len cap es vs hl hc hf hs hI hv => exact one _ _ (.list full xs b o len cap es vs hl hc hf hs hI hv) rfl rfl
  | own id xs v h ht =>
    have h' := h
    cases h' with
    | list0 => exact one _ _ (.own id _ _ h ht) rfl rfl
    | list => exact one _ _ (.own id _ _ h ht) rfl rfl
  | row id off len cap o B hj hc h => exact one _ _ (.row id off len cap o B hj hc h) rfl rfl
  | ptr id k B hj => exact one _ _ (.ptr id k B hj) rfl rfl
  | rptr id i k B hj => exact one _ _ (.rptr id i k B hj) rfl rfl
  | eptr cells k b o vs hI hv => exact one _ _ (.eptr cells k b o vs hI hv) rfl rfl
  | nilp => exact one _ _ .nilp rfl rfl
  | tup cs vs hl hv => exact one _ _ (.tup cs vs hl hv) rfl rfl
  | fn f cs vs hl hv => exact one _ _ (.fn f cs vs hl hv) rfl rfl
  | yld l B hj => exact one _ _ (.yld l B hj) rfl rfl
  | nilf => exact one _ _ .nilf rfl rfl
  | map id B hj => exact one _ _ (.map id B hj) rfl rfl
  | nilm => exact one _ _ .nilm rfl rfl
  | iface t a v h => exact one _ _ (.iface t a v h) rfl rfl
  | nili => exact one _ _ .nili rfl rfl
theorem Rep.one {G : Gh} {a : AV} {v : Value} (h : Rep G a v) (ho : a.one = true) : v.oneCell' = true := by
  cases h with
  | own id xs v h ht => cases h <;> rfl
  | _ => first | rfl | simp [AV.one] at ho
abbrev Env := Nat → AV
def ev (C : Cx) (nt : Nat) (env : Env) : Operand → AV
  | .tmp t => if t < nt then env t else .undef
  | .const v => ofV v
  | .global g => .eptr (C.gl g) 0
  | .func f => .fn f []
def upd (env : Env) (d : Nat) (v : AV) : Env := fun t => if t = d then v else env t
structure EnvRep (G : Gh) (nt : Nat) (env : Env) (tmps : Array Value) : Prop where
  size : tmps.size = nt
  rep : ∀ t, t < nt → Rep G (env t) (tmps.getD t undef)
theorem EnvRep.mono {G G' : Gh} {nt : Nat} {env : Env} {tmps : Array Value} (h : EnvRep G nt env tmps) (le : G.le G') : EnvRep G' nt env tmps := ⟨h.size, fun t ht => (h.rep t ht).mono le⟩
theorem EnvRep.ev {C : Cx} {w0 w : World} {G : Gh} {σ : Sto} {nt : Nat} {env : Env} {a : Act} (hi : Inv C.gl w0 G σ w) (h : EnvRep G nt env a.tmps) (x : Operand) : Rep G (ev C nt env x) (a.eval x) := by
  cases x with
  | tmp t =>
    simp only [Lg.ev, Act.eval]
    split
    · rename_i ht; exact h.rep t ht
    · exact .undef _
  | const v => exact rep_ofV G v
  | global g =>
    have e := Rep.eptr (G := G) (C.gl g) 0 g 0 (fun i => (G.I g i).getD undef) (fun i hi' => by
      obtain ⟨v, hv, _⟩ := hi.gl g i _ (List.getElem?_eq_getElem hi')
      simp [hv]) (fun i c hc => by
      obtain ⟨v, hv, hr⟩ := hi.gl g i c hc
      simp [hv, hr])
    simpa [Lg.ev, Act.eval] using e
  | func f => exact .fn f [] #[] rfl (fun i c v h1 _ => by simp at h1)
theorem EnvRep.put {G : Gh} {nt : Nat} {env : Env} {a : Act} (h : EnvRep G nt env a.tmps) {v : AV} {u : Value} (hr : Rep G v u) (d : Option Tmp) :
    EnvRep G nt (match d with | some d => upd env d v | none => env) (a.put d u).tmps := by
  cases d with
  | none => exact h
  | some d =>
    refine ⟨by simp [Act.put, h.size], fun t ht => ?_⟩
    simp only [Act.put, upd]
    by_cases e : t = d
    · subst e
      rw [if_pos rfl]
      simp [h.size, ht, hr]
    · rw [if_neg e]
      have := h.rep t ht
      simp only [Array.getD_eq_getD_getElem?] at this ⊢
      rw [Array.getElem?_setIfInBounds_ne (by omega)]
      exact this
theorem add_at (b o n : Nat) : (⟨b, o, none⟩ : Addr).add n = ⟨b, o + n, none⟩ := by unfold Addr.add; split <;> simp_all
structure AR where
  c : Prop
  v : AV
  s : Sto
def Snd (C : Cx) (o : Oper) (ρ : Operand → AV) (σ : Sto) (r : AR) : Prop :=
  r.c → ∀ (w0 : World) (G : Gh) (a : Act) (w : World), Inv C.gl w0 G σ w → (∀ x ∈ o.op.operands.toList, Rep G (ρ x) (a.eval x)) →
    ∃ G' nx v' w', (execOp a.eval o).run C.P w = .ok nx w' ∧ (nx = .value v' ∨ nx = .skip ∧ v' = undef) ∧ Rep G' r.v v' ∧ Inv C.gl w0 G' r.s w' ∧ Ext G σ w G' r.s w'
theorem snd_pure {C : Cx} {o : Oper} {ρ : Operand → AV} {σ : Sto} {v : AV} {c : Prop}
    (h : c → ∀ (w0 : World) (G : Gh) (a : Act) (w : World), Inv C.gl w0 G σ w → (∀ x ∈ o.op.operands.toList, Rep G (ρ x) (a.eval x)) → ∃ v', (execOp a.eval o).run C.P w = .ok (.value v') w ∧ Rep G v v') : Snd C o ρ σ ⟨c, v, σ⟩ := by
  intro hc w0 G a w hi hx
  obtain ⟨v', h1, h2⟩ := h hc w0 G a w hi hx
  exact ⟨G, _, v', w, h1, .inl rfl, h2, hi, .refl G σ w⟩
def AV.isBool : AV → Bool
  | .bool _ => true
  | _ => false
def AV.theB : AV → Bool
  | .bool b => b
  | _ => false
theorem Rep.isBool {G : Gh} {a : AV} {v : Value} (h : Rep G a v) (hb : a.isBool = true) : v = .bool a.theB := by
  cases h <;> simp_all [AV.isBool, AV.theB]
abbrev AV.skp : AV := .tup []
theorem rep_skp (G : Gh) : Rep G .skp Go.undef := .tup [] #[] rfl (fun i c v h => by simp at h)
def AV.isGd : AV → Bool
  | .bool _ => true
  | .tup [] => true
  | _ => false
def AV.goes (v : AV) (want : Bool) : Bool :=
  match v with
  | .bool b => b == want
  | _ => false
def AV.isInt : AV → Bool
  | .int _ _ => true
  | _ => false
def AV.theI : AV → Int
  | .int _ n => n
  | _ => 0
def AV.theK : AV → IntKind
  | .int k _ => k
  | _ => .i64
theorem Rep.isInt {G : Gh} {a : AV} {v : Value} (h : Rep G a v) (hb : a.isInt = true) : v = .int a.theK a.theI := by
  cases h <;> simp_all [AV.isInt, AV.theI, AV.theK]
def rdC (i : TyI) (cells : List AV) (k : Nat) : AV := if isAggD i.desc then .agg ((cells.drop k).take i.size) else cells.getD k .undef
def rdOK (i : TyI) (cells : List AV) (k : Nat) : Prop := k + i.size ≤ cells.length ∧ (isAggD i.desc = false → i.size = 1)
def wr (cells : List AV) (k : Nat) (xs : List AV) : List AV := cells.take k ++ xs ++ cells.drop (k + xs.length)
def rowElems (σ : Sto) (id : Nat) : List AV :=
  match σ.get id with
  | some (.row _ xs _) => xs
  | _ => []
def boxCells (σ : Sto) (id : Nat) : List AV :=
  match σ.get id with
  | some (.box cs) => cs
  | _ => []
theorem run_loadVar_rd {C : Cx} {t : TypeId} {i : TyI} (ht : C.ty t = some i) {G : Gh} {w : World} {cells : List AV} {b o k : Nat}
    (hc : ∀ j c, cells[j]? = some c → ∃ v, w.cell? ⟨b, o + j, none⟩ = some v ∧ Rep G c v) (hk : rdOK i cells k) :
    ∃ v, (loadVar t ⟨b, o + k, none⟩).run C.P w = .ok v w ∧ Rep G (rdC i cells k) v := by
  obtain ⟨h1, h2⟩ := hk
  simp only [loadVar, Sem.run_bind, C.run_isAgg ht, Result.andThen_ok, rdC]
  by_cases ha : isAggD i.desc = true
  · let f : Nat → Value := fun j => (w.cell? ⟨b, o + k + j, none⟩).getD undef
    have hf : ∀ j, j < i.size → w.cell? ((⟨b, o + k, none⟩ : Addr).add j) = some (f j) := by
      intro j hj
      rw [add_at]
      obtain ⟨v, hv, _⟩ := hc (k + j) _ (List.getElem?_eq_getElem (by omega))
      have e : o + k + j = o + (k + j) := by omega
      simp only [f, e, hv, Option.getD_some]
    have hl := run_loadCells (P := C.P) w ⟨b, o + k, none⟩ i.size f hf
    simp only [ha, if_true, Sem.run_bind, C.run_size ht, Result.andThen_ok, hl, Sem.run_pure]
    refine ⟨_, rfl, .agg _ _ (by simp; omega) fun j c v hj hv => ?_⟩
    have hjs : j < i.size := by
      have := (List.getElem?_eq_some_iff.1 hj).1
      simp at this; omega
    simp only [List.getElem?_take, hjs, if_true, List.getElem?_drop] at hj
    obtain ⟨v2, hv2, hr⟩ := hc (k + j) c hj
    simp only [List.getElem?_toArray, List.getElem?_map, List.getElem?_range hjs, Option.map_some, Option.some.injEq] at hv
    subst hv
    have e : o + k + j = o + (k + j) := by omega
    simp only [f, e, hv2, Option.getD_some]
    exact hr
  · have hs := h2 (by simpa using ha)
    obtain ⟨v, hv, hr⟩ := hc k _ (List.getElem?_eq_getElem (by omega))
    have e : load (⟨b, o + k, none⟩ : Addr) = Sem.load .plain ⟨b, o + k, none⟩ .pure := rfl
    refine ⟨v, ?_, ?_⟩
    · simp [ha, e, Sem.run, hv]
    · simp only [ha, if_false, Bool.false_eq_true]
      rw [List.getD_eq_getElem?_getD, List.getElem?_eq_getElem (by omega)]
      exact hr
theorem cell_at {w : World} {b k : Nat} {vs : Array Value} {ty : TypeId} {fr : Nat × Nat} (h : w.heap[b]? = some (.cells vs ty fr)) : w.cell? ⟨b, k, none⟩ = vs[k]? := by simp [World.cell?, h]
end Go.Lg
/- Lg, part C: the operations, one by one. -/
namespace Go.Lg
open Go.RowKit
theorem run_newVar (P : Program) (t : TypeId) (v : Value) (w : World) : (newVar t v).run P w = .ok ⟨w.heap.size, 0, none⟩ (w.alloc (.cells v.cells t)) := by
  simp [newVar, newRow, newObj, Sem.run]
theorem new_box {gl : Nat → List AV} {w0 w : World} {G : Gh} {σ : Sto} (h : Inv gl w0 G σ w) {a : AV} {v : Value} (hr : Rep G a v) (hd : a.def = true) (t : TypeId) :
    ∃ G', Rep G' (.ptr σ.next 0) (.pointer (some ⟨w.heap.size, 0, none⟩)) ∧ Inv gl w0 G' (σ.add (.box a.cells)) (w.alloc (.cells v.cells t)) ∧ Ext G σ w G' (σ.add (.box a.cells)) (w.alloc (.cells v.cells t)) := by
  obtain ⟨h1, h2⟩ := hr.cells hd
  have hle := Gh.le_new (G := G) (id := σ.next) ⟨w.heap.size, 0, a.cells.length, 0⟩ (h.fresh _ (Nat.le_refl _))
  refine ⟨G.new σ.next ⟨w.heap.size, 0, a.cells.length, 0⟩, .ptr _ _ ⟨w.heap.size, 0, a.cells.length, 0⟩ (by simp [Gh.new]), ?_, Ext.new h (σ.next + 1) _ _ _ (by omega) rfl⟩
  refine Inv.new h σ.next (σ.next + 1) (.box a.cells) _ _ (by omega) (by omega) (h.fresh _ (Nat.le_refl _)) rfl ?_
  refine ⟨v.cells, t, heap_alloc_new w _, h1, fun i c hc => ?_, fun k => ?_⟩
  · obtain ⟨u, hu, hr⟩ := h2 i c hc
    exact ⟨u, hu, hr.mono hle⟩
  · show G.I w.heap.size k = none
    cases hI : G.I w.heap.size k with
    | none => rfl
    | some v => have := h.imm_lt hI; omega
section ops
variable {C : Cx} {o : Oper} {ρ : Operand → AV} {σ : Sto}
theorem snd_move {x : Operand} (ho : o.op = .move x ∨ o.op = .assign x) : Snd C o ρ σ ⟨True, ρ x, σ⟩ :=
  snd_pure fun _ w0 G a w hi hx => ⟨a.eval x, by rcases ho with ho | ho <;> simp [execOp, ho], hx x (by rcases ho with ho | ho <;> simp [ho, Op.operands])⟩
theorem snd_pick {c x y : Operand} (ho : o.op = .pick c x y) : Snd C o ρ σ ⟨(ρ c).isBool = true, if (ρ c).theB = true then ρ x else ρ y, σ⟩ :=
  snd_pure fun hc w0 G a w hi hx => by
    have e := (hx c (by simp [ho, Op.operands])).isBool hc
    refine ⟨if (ρ c).theB = true then a.eval x else a.eval y, ?_, ?_⟩
    · simp [execOp, ho, e, asBool]
    · split
      · exact hx x (by simp [ho, Op.operands])
      · exact hx y (by simp [ho, Op.operands])
theorem snd_box {t : TypeId} {x : Operand} (ho : o.op = .box t x) : Snd C o ρ σ ⟨(ρ x).def = true, .ptr σ.next 0, σ.add (.box (ρ x).cells)⟩ := by
  intro hc w0 G a w hi hx
  obtain ⟨G', h1, h2, h3⟩ := new_box hi (hx x (by simp [ho, Op.operands])) hc t
  exact ⟨G', .value (.pointer (some ⟨w.heap.size, 0, none⟩)), _, _, by simp [execOp, ho, Instr.box, run_newVar], .inl rfl, h1, h2, h3⟩
theorem snd_alloc {t : TypeId} {i : TyI} (ht : C.ty t = some i) (ho : o.op = .alloc t) : Snd C o ρ σ ⟨(ofV i.zero).def = true, .ptr σ.next 0, σ.add (.box (ofV i.zero).cells)⟩ := by
  intro hc w0 G a w hi hx
  obtain ⟨G', h1, h2, h3⟩ := new_box hi (rep_ofV G i.zero) hc t
  exact ⟨G', .value (.pointer (some ⟨w.heap.size, 0, none⟩)), _, _, by simp [execOp, ho, Instr.alloc, C.run_zero ht, run_newVar], .inl rfl, h1, h2, h3⟩
theorem snd_load_box {t : TypeId} {i : TyI} {x : Operand} {id k : Nat} {cs : List AV} (ht : C.ty t = some i) (ho : o.op = .load t x) (hx : ρ x = .ptr id k) (hs : σ.get id = some (.box cs)) :
    Snd C o ρ σ ⟨rdOK i cs k, rdC i cs k, σ⟩ :=
  snd_pure fun hc w0 G a w hi hr => by
    have hp := hr x (by simp [ho, Op.operands])
    rw [hx] at hp
    cases hv : a.eval x with
    | pointer ad =>
      rw [hv] at hp
      cases hp with
      | ptr _ _ B hj =>
        obtain ⟨_, vs, ty, h1, h2, h3, h4⟩ := hi.obj id _ B hs hj
        obtain ⟨v, e1, e2⟩ := run_loadVar_rd (C := C) ht (G := G) (w := w) (cells := cs) (b := B.b) (o := 0) (k := k) (fun j c hj' => by
          obtain ⟨v, hv', hr'⟩ := h3 j c hj'
          exact ⟨v, by rw [cell_at h1]; simpa using hv', hr'⟩) hc
        refine ⟨v, ?_, e2⟩
        simp only [Nat.zero_add] at e1
        simp [execOp, ho, hv, Instr.loadAt, Instr.sureAddr, e1]
    | _ => rw [hv] at hp; cases hp
theorem snd_load_imm {t : TypeId} {i : TyI} {x : Operand} {k : Nat} {cs : List AV} (ht : C.ty t = some i) (ho : o.op = .load t x) (hx : ρ x = .eptr cs k) :
    Snd C o ρ σ ⟨rdOK i cs k, rdC i cs k, σ⟩ :=
  snd_pure fun hc w0 G a w hi hr => by
    have hp := hr x (by simp [ho, Op.operands])
    rw [hx] at hp
    cases hv : a.eval x with
    | pointer ad =>
      rw [hv] at hp
      cases hp with
      | eptr _ _ b o' vs hI hv' =>
        obtain ⟨v, e1, e2⟩ := run_loadVar_rd (C := C) ht (G := G) (w := w) (cells := cs) (b := b) (o := o') (k := k) (fun j c hj => by
          have hj' : j < cs.length := (List.getElem?_eq_some_iff.1 hj).1
          exact ⟨vs j, hi.imm _ _ _ (hI j hj'), hv' j c hj⟩) hc
        exact ⟨v, by simp [execOp, ho, hv, Instr.loadAt, Instr.sureAddr, e1], e2⟩
    | _ => rw [hv] at hp; cases hp
theorem snd_load_row {t : TypeId} {i : TyI} {x : Operand} {id n k : Nat} {es : Nat} {xs : List AV} {fz : Bool} {e : AV} (ht : C.ty t = some i) (ho : o.op = .load t x) (hx : ρ x = .rptr id n k)
    (hs : σ.get id = some (.row es xs fz)) (he : xs[n]? = some e) : Snd C o ρ σ ⟨rdOK i e.cells k, rdC i e.cells k, σ⟩ :=
  snd_pure fun hc w0 G a w hi hr => by
    have hp := hr x (by simp [ho, Op.operands])
    rw [hx] at hp
    cases hv : a.eval x with
    | pointer ad =>
      rw [hv] at hp
      cases hp with
      | rptr _ _ _ B hj =>
        obtain ⟨_, vs, ty, h1, h2, h3, h4, h5, h6, h7⟩ := hi.obj id _ B hs hj
        obtain ⟨v, e1, e2⟩ := run_loadVar_rd (C := C) ht (G := G) (w := w) (cells := e.cells) (b := B.b) (o := B.o0 + n * B.es) (k := k) (fun j c hj' => by
          obtain ⟨v, hv', hr'⟩ := h6 n e j c he hj'
          exact ⟨v, by rw [cell_at h1, h3]; exact hv', hr'⟩) hc
        exact ⟨v, by simp [execOp, ho, hv, Instr.loadAt, Instr.sureAddr, e1], e2⟩
    | _ => rw [hv] at hp; cases hp
theorem wr_length {cs xs : List AV} {k : Nat} (h : k + xs.length ≤ cs.length) : (wr cs k xs).length = cs.length := by simp [wr]; omega
theorem wr_get {cs xs : List AV} {k j : Nat} (h : k + xs.length ≤ cs.length) : (wr cs k xs)[j]? = if k ≤ j ∧ j < k + xs.length then xs[j - k]? else cs[j]? := by
  unfold wr
  rw [List.append_assoc, List.getElem?_append, List.length_take]
  by_cases h1 : j < k
  · rw [if_pos (by omega), if_neg (by omega), List.getElem?_take, if_pos h1]
  · rw [if_neg (by omega), List.getElem?_append]
    by_cases h2 : j < k + xs.length
    · rw [if_pos (by omega), if_pos (by omega)]; congr 1; omega
    · rw [if_neg (by omega), if_neg (by omega), List.getElem?_drop]; congr 1; omega
def wrV (cs : Array Value) (k : Nat) (xs : List Value) : Array Value := (cs.toList.take k ++ xs ++ cs.toList.drop (k + xs.length)).toArray
theorem wrV_size {cs : Array Value} {xs : List Value} {k : Nat} (h : k + xs.length ≤ cs.size) : (wrV cs k xs).size = cs.size := by simp [wrV]; omega
theorem wrV_get {cs : Array Value} {xs : List Value} {k j : Nat} (h : k + xs.length ≤ cs.size) : (wrV cs k xs)[j]? = if k ≤ j ∧ j < k + xs.length then xs[j - k]? else cs[j]? := by
  unfold wrV
  have hl : cs.toList.length = cs.size := by simp
  rw [List.getElem?_toArray, List.append_assoc, List.getElem?_append, List.length_take]
  by_cases h1 : j < k
  · rw [if_pos (by omega), if_neg (by omega), List.getElem?_take, if_pos h1, Array.getElem?_toList]
  · rw [if_neg (by omega), List.getElem?_append]
    by_cases h2 : j < k + xs.length
    · rw [if_pos (by omega), if_pos (by omega)]; congr 1; omega
    · rw [if_neg (by omega), if_neg (by omega), List.getElem?_drop, Array.getElem?_toList]; congr 1; omega
theorem run_storeVar_at {C : Cx} {t : TypeId} {i : TyI} (ht : C.ty t = some i) {w : World} {b k : Nat} {vs : Array Value} {ty : TypeId} {v : Value}
    (hb : w.heap[b]? = some (.cells vs ty (0, 0))) (hs : v.cells.size = i.size) (hk : k + i.size ≤ vs.size) (h1 : ∀ u ∈ v.cells.toList, u.oneCell' = true) :
    (storeVar t ⟨b, k, none⟩ v).run C.P w = .ok () (w.setRow b (wrV vs k v.cells.toList)) := by
  have h := run_storeCells_at C.P b k ty v.cells.toList 0 vs w hb (by simp; omega) h1
  simp only [Nat.add_zero] at h
  simp [storeVar, C.run_size ht, hs, h, wrV]
theorem snd_store_box {t : TypeId} {i : TyI} {x y : Operand} {id k : Nat} {cs : List AV} (ht : C.ty t = some i) (ho : o.op = .store t x y) (hx : ρ x = .ptr id k) (hs : σ.get id = some (.box cs)) :
    Snd C o ρ σ ⟨(ρ y).def = true ∧ (ρ y).cells.length = i.size ∧ k + i.size ≤ cs.length ∧ (ρ y).cells.all AV.one = true, .undef, σ.set id (.box (wr cs k (ρ y).cells))⟩ := by
  rintro ⟨c1, c2, c3, c4⟩ w0 G a w hi hr
  have hp := hr x (by simp [ho, Op.operands])
  have hq := hr y (by simp [ho, Op.operands])
  obtain ⟨q1, q2⟩ := hq.cells c1
  rw [hx] at hp
  cases hv : a.eval x with
  | pointer ad =>
    rw [hv] at hp
    cases hp with
    | ptr _ _ B hj =>
      obtain ⟨_, vs, ty, h1, h2, h3, h4⟩ := hi.obj id _ B hs hj
      have one : ∀ u ∈ (a.eval y).cells.toList, u.oneCell' = true := by
        intro u hu
        obtain ⟨j, hj', rfl⟩ := List.getElem_of_mem hu
        have hj2 : j < (ρ y).cells.length := by rw [← q1]; simpa using hj'
        obtain ⟨u, hu', hru⟩ := q2 j _ (List.getElem?_eq_getElem hj2)
        have : (a.eval y).cells.toList[j] = u := by
          have := hu'
          rw [Array.getElem?_eq_getElem (by simpa using hj')] at this
          simpa using this
        rw [this]
        exact hru.one (List.all_eq_true.1 c4 _ (List.getElem_mem hj2))
      have hl : (a.eval y).cells.toList.length = i.size := by simp [q1, c2]
      have hrun := run_storeVar_at ht h1 (by rw [q1, c2]) (by rw [h2]; omega) one
      refine ⟨G, .skip, undef, w.setRow B.b (wrV vs k (a.eval y).cells.toList), by simp [execOp, ho, hv, Instr.storeAt, Instr.sureAddr, hrun], .inr ⟨rfl, rfl⟩, .undef _, ?_, ?_⟩
      · refine Inv.set hi id _ _ B hs hj rfl rfl rfl (by simp) (fun b' hb' => setRow_other w B.b b' _ hb') (fun k' v' hk' => by rw [h4 k'] at hk'; cases hk') ?_
        refine ⟨_, ty, setRow_heap w B.b vs _ ty _ h1, ?_, ?_, h4⟩
        · rw [wrV_size (by omega), wr_length (by omega), h2]
        · intro j c hc
          rw [wr_get (by omega)] at hc
          rw [wrV_get (by omega)]
          by_cases e : k ≤ j ∧ j < k + (ρ y).cells.length
          · rw [if_pos e] at hc
            rw [if_pos (by omega)]
            obtain ⟨u, hu, hru⟩ := q2 _ _ hc
            exact ⟨u, by rw [Array.getElem?_toList]; exact hu, hru⟩
          · rw [if_neg e] at hc
            rw [if_neg (by omega)]
            exact h3 j c hc
      · exact Ext.set id _ _ B hs hj (by simp) (fun b' hb' => setRow_other w B.b b' _ hb')
  | _ => rw [hv] at hp; cases hp
theorem snd_store_row {t : TypeId} {i : TyI} {x y : Operand} {id n k es : Nat} {xs : List AV} {e : AV} (ht : C.ty t = some i) (ho : o.op = .store t x y) (hx : ρ x = .rptr id n k)
    (hs : σ.get id = some (.row es xs false)) (he : xs[n]? = some e) :
    Snd C o ρ σ ⟨(ρ y).def = true ∧ (ρ y).cells.length = i.size ∧ k + i.size ≤ es ∧ (ρ y).cells.all AV.one = true, .undef,
      σ.set id (.row es (xs.set n (if es = 1 ∧ i.size = 1 then (ρ y).cells.getD 0 .undef else .agg (wr e.cells k (ρ y).cells))) false)⟩ := by
  rintro ⟨c1, c2, c3, c4⟩ w0 G a w hi hr
  have hp := hr x (by simp [ho, Op.operands])
  have hq := hr y (by simp [ho, Op.operands])
  obtain ⟨q1, q2⟩ := hq.cells c1
  rw [hx] at hp
  cases hv : a.eval x with
  | pointer ad =>
    rw [hv] at hp
    cases hp with
    | rptr _ _ _ B hj =>
      obtain ⟨_, vs, ty, h1, h2, h3, h4, h5, h6, h7⟩ := hi.obj id _ B hs hj
      have hn : n < xs.length := (List.getElem?_eq_some_iff.1 he).1
      have hel := h5 n e he
      have hnes : n * es + es ≤ xs.length * es := by rw [← Nat.succ_mul]; exact Nat.mul_le_mul_right _ hn
      have one : ∀ u ∈ (a.eval y).cells.toList, u.oneCell' = true := by
        intro u hu
        obtain ⟨j, hj', rfl⟩ := List.getElem_of_mem hu
        have hj2 : j < (ρ y).cells.length := by rw [← q1]; simpa using hj'
        obtain ⟨u, hu', hru⟩ := q2 j _ (List.getElem?_eq_getElem hj2)
        have : (a.eval y).cells.toList[j] = u := by
          have := hu'
          rw [Array.getElem?_eq_getElem (by simpa using hj')] at this
          simpa using this
        rw [this]
        exact hru.one (List.all_eq_true.1 c4 _ (List.getElem_mem hj2))
      have hl : (a.eval y).cells.toList.length = i.size := by simp [q1, c2]
      rw [h3] at hv
      have hrun := run_storeVar_at (k := B.o0 + n * es + k) ht h1 (by rw [q1, c2]) (by rw [h2]; omega) one
      have hnew : (if es = 1 ∧ i.size = 1 then (ρ y).cells.getD 0 .undef else AV.agg (wr e.cells k (ρ y).cells)).cells = wr e.cells k (ρ y).cells := by
        split
        · rename_i hh
          have hk0 : k = 0 := by omega
          subst hk0
          obtain ⟨c, hc⟩ : ∃ c, (ρ y).cells = [c] := List.length_eq_one_iff.1 (by omega)
          obtain ⟨d, hd⟩ : ∃ d, e.cells = [d] := List.length_eq_one_iff.1 (by omega)
          have h1c : c.one = true := List.all_eq_true.1 c4 c (by rw [hc]; simp)
          rw [hc, hd]
          simp only [List.getD_cons_zero, wr, List.take_zero, List.nil_append, List.length_singleton, Nat.zero_add, List.drop_one, List.tail_cons, List.append_nil]
          cases c <;> first | rfl | simp [AV.one] at h1c
        · rfl
      refine ⟨G, .skip, undef, w.setRow B.b (wrV vs (B.o0 + n * es + k) (a.eval y).cells.toList), by simp [execOp, ho, hv, Instr.storeAt, Instr.sureAddr, hrun], .inr ⟨rfl, rfl⟩, .undef _, ?_, ?_⟩
      · refine Inv.set hi id _ _ B hs hj rfl rfl rfl (by simp) (fun b' hb' => setRow_other w B.b b' _ hb') (fun k' v' hk' => ?_) ?_
        · have hlo : k' < B.o0 := by
            rcases Nat.lt_or_ge k' B.o0 with h | h
            · exact h
            · rw [h7 k' h] at hk'; simp at hk'
          have hcell := hi.imm _ _ _ hk'
          rw [cell_at h1] at hcell
          rw [cell_at (setRow_heap w B.b vs _ ty _ h1), wrV_get (by omega), if_neg (by omega)]
          exact hcell
        refine ⟨_, ty, setRow_heap w B.b vs _ ty _ h1, ?_, h3, by simpa using h4, ?_, ?_, ?_⟩
        · rw [wrV_size (by omega), h2]
        · intro j z hz
          rw [List.getElem?_set] at hz
          split at hz
          · rename_i e1; subst e1
            cases hz
            rw [hnew, wr_length (by omega)]; exact hel
          · exact h5 j z hz
        · intro j z k' c hz hc
          rw [wrV_get (by omega)]
          rw [List.getElem?_set] at hz
          split at hz
          · rename_i e1; subst e1
            cases hz
            rw [hnew, wr_get (by omega)] at hc
            by_cases e2 : k ≤ k' ∧ k' < k + (ρ y).cells.length
            · rw [if_pos e2] at hc
              rw [if_pos (by omega)]
              obtain ⟨u, hu, hru⟩ := q2 _ _ hc
              refine ⟨u, ?_, hru⟩
              rw [Array.getElem?_toList, ← hu]; congr 1; omega
            · rw [if_neg e2] at hc
              rw [if_neg (by omega)]
              exact h6 n e k' c he hc
          · rename_i e1
            have hz' := h5 j z hz
            have hk' : k' < es := by rw [← hz']; exact (List.getElem?_eq_some_iff.1 hc).1
            have hne : ¬ (B.o0 + n * es + k ≤ B.o0 + j * es + k' ∧ B.o0 + j * es + k' < B.o0 + n * es + k + (a.eval y).cells.toList.length) := by
              rw [hl]
              rintro ⟨g1, g2⟩
              rcases Nat.lt_or_gt_of_ne e1 with hlt | hgt
              · have : (n + 1) * es ≤ j * es := Nat.mul_le_mul_right _ hlt
                rw [Nat.succ_mul] at this; omega
              · have : (j + 1) * es ≤ n * es := Nat.mul_le_mul_right _ hgt
                rw [Nat.succ_mul] at this; omega
            rw [if_neg hne]
            exact h6 j z k' c hz hc
        · intro k' hk'; simp only [Bool.false_eq_true, false_and, if_false]
          simpa using h7 k' hk'
      · exact Ext.set id _ _ B hs hj (by simp) (fun b' hb' => setRow_other w B.b b' _ hb')
  | _ => rw [hv] at hp; cases hp
end ops
end Go.Lg
/- Lg, part D: addresses, arithmetic, and other operations that turn no memory. -/
namespace Go.Lg
open Go.RowKit
def AV.shift (n : Nat) : AV → AV
  | .ptr id k => .ptr id (k + n)
  | .rptr id i k => .rptr id i (k + n)
  | .eptr cs k => .eptr cs (k + n)
  | _ => .undef
def AV.isAddr : AV → Bool
  | .ptr _ _ | .rptr _ _ _ | .eptr _ _ => true
  | _ => false
theorem Rep.shift {G : Gh} {a : AV} {v : Value} (h : Rep G a v) (ha : a.isAddr = true) : ∃ b o, v = .pointer (some ⟨b, o, none⟩) ∧ ∀ n, Rep G (a.shift n) (.pointer (some ⟨b, o + n, none⟩)) := by
  cases h with
  | ptr id k B hj => exact ⟨_, _, rfl, fun n => .ptr id (k + n) B hj⟩
  | rptr id i k B hj => exact ⟨_, _, rfl, fun n => by have := Rep.rptr (G := G) id i (k + n) B hj; rwa [← Nat.add_assoc] at this⟩
  | eptr cells k b o vs hI hv => exact ⟨_, _, rfl, fun n => by have := Rep.eptr (G := G) cells (k + n) b o vs hI hv; rwa [← Nat.add_assoc] at this⟩
  | _ => simp [AV.isAddr] at ha
section ops
variable {C : Cx} {o : Oper} {ρ : Operand → AV} {σ : Sto}
theorem snd_fieldAddr {t : TypeId} {ti fi : TyI} {fs : Array Field} {x : Operand} {f : Nat} {fl : Field} (ht : C.ty t = some ti) (hd : ti.desc = .struct fs) (hf : fs[f]? = some fl) (hfi : C.ty fl.type = some fi)
    (ho : o.op = .fieldAddr t x f) : Snd C o ρ σ ⟨fi.size ≠ 0 ∧ (ρ x).isAddr = true, (ρ x).shift fl.offset, σ⟩ :=
  snd_pure fun ⟨hz, ha⟩ w0 G a w hi hr => by
    obtain ⟨b, k, hv, hn⟩ := (hr x (by simp [ho, Op.operands])).shift ha
    refine ⟨_, ?_, hn fl.offset⟩
    simp [execOp, ho, Instr.fieldAt, C.run_und ht, hd, hf, hv, Instr.sureAddr, fieldPlace, C.run_size hfi, hz, add_at]
theorem snd_indexAddr_arr {t e : TypeId} {ti ei : TyI} {n : Nat} {x ix : Operand} (ht : C.ty t = some ti) (hd : ti.desc = .array n e) (he : C.ty e = some ei) (ho : o.op = .indexAddr t x ix) :
    Snd C o ρ σ ⟨(ρ x).isAddr = true ∧ (ρ ix).isInt = true ∧ 0 ≤ (ρ ix).theI ∧ (ρ ix).theI < n, (ρ x).shift ((ρ ix).theI.toNat * ei.size), σ⟩ :=
  snd_pure fun ⟨ha, hb, h0, h1⟩ w0 G a w hi hr => by
    obtain ⟨b, k, hv, hn⟩ := (hr x (by simp [ho, Op.operands])).shift ha
    have hi' := (hr ix (by simp [ho, Op.operands])).isInt hb
    refine ⟨_, ?_, hn _⟩
    simp [execOp, ho, Instr.indexAt, hi', asIntOf, C.run_und ht, hd, hv, Instr.sureAddr, h0, h1, C.run_size he, add_at]
theorem snd_indexAddr_list {t e : TypeId} {ti ei : TyI} {x ix : Operand} {full : Bool} {xs : List AV} (ht : C.ty t = some ti) (hd : ti.desc = .slice e) (he : C.ty e = some ei) (ho : o.op = .indexAddr t x ix) (hx : ρ x = .list full xs) :
    Snd C o ρ σ ⟨(ρ ix).isInt = true ∧ 0 ≤ (ρ ix).theI ∧ (ρ ix).theI < xs.length ∧ (xs.getD (ρ ix).theI.toNat .undef).cells.length = ei.size, .eptr (xs.getD (ρ ix).theI.toNat .undef).cells 0, σ⟩ :=
  snd_pure fun ⟨hb, h0, h1, h2⟩ w0 G a w hi hr => by
    have hp := hr x (by simp [ho, Op.operands])
    rw [hx] at hp
    have hi' := (hr ix (by simp [ho, Op.operands])).isInt hb
    generalize (ρ ix).theI = n at *
    have hl : n.toNat < xs.length := by omega
    have hg := List.getElem?_eq_getElem hl
    have hgd : xs.getD n.toNat .undef = xs[n.toNat] := by rw [List.getD_eq_getElem?_getD, hg]; rfl
    rw [hgd] at h2 ⊢
    cases hv : a.eval x with
    | slice ad len cap =>
      rw [hv] at hp
      cases hp with
      | list0 => simp at hl
      | list _ _ b o' _ _ es vs hl' hc hf hs hI hvv =>
        have hes : es = ei.size := by rw [← hs _ _ hg, h2]
        subst hes
        refine ⟨.pointer (some ⟨b, o' + n.toNat * ei.size + 0, none⟩), ?_, ?_⟩
        · simp [execOp, ho, Instr.indexAt, hi', asIntOf, C.run_und ht, hd, hv, h0, h1, ← hl', C.run_size he, add_at]
        · refine .eptr _ 0 b (o' + n.toNat * ei.size) (fun k => vs n.toNat k) (fun k hk => ?_) fun k c hk => hvv _ _ k c hg hk
          rw [Nat.add_assoc]
          exact hI _ _ (by omega) (by rw [h2] at hk; exact hk)
    | _ => rw [hv] at hp; cases hp
theorem snd_indexAddr_row {t e : TypeId} {ti ei : TyI} {x ix : Operand} {id off len es : Nat} {xs : List AV} {fz : Bool} (ht : C.ty t = some ti) (hd : ti.desc = .slice e) (he : C.ty e = some ei) (ho : o.op = .indexAddr t x ix)
    (hx : ρ x = .row id off len) (hs : σ.get id = some (.row es xs fz)) :
    Snd C o ρ σ ⟨(ρ ix).isInt = true ∧ 0 ≤ (ρ ix).theI ∧ (ρ ix).theI < len ∧ es = ei.size, .rptr id (off + (ρ ix).theI.toNat) 0, σ⟩ :=
  snd_pure fun ⟨hb, h0, h1, h2⟩ w0 G a w hi hr => by
    have hp := hr x (by simp [ho, Op.operands])
    rw [hx] at hp
    have hi' := (hr ix (by simp [ho, Op.operands])).isInt hb
    generalize (ρ ix).theI = n at *
    cases hv : a.eval x with
    | slice ad len' cap =>
      rw [hv] at hp
      cases hp with
      | row _ _ _ _ o' B hj hc h =>
        obtain ⟨_, vs, ty, g1, g2, g3, _⟩ := hi.obj id _ B hs hj
        rcases h with ⟨ho', _⟩ | ⟨hz, _⟩
        · refine ⟨.pointer (some ⟨B.b, B.o0 + (off + n.toNat) * B.es + 0, none⟩), ?_, .rptr _ _ _ B hj⟩
          have e : o' + n.toNat * ei.size = B.o0 + (off + n.toNat) * B.es + 0 := by rw [ho', g3, h2, Nat.add_mul]; omega
          simp [execOp, ho, Instr.indexAt, hi', asIntOf, C.run_und ht, hd, hv, h0, h1, C.run_size he, add_at, e]
        · omega
    | _ => rw [hv] at hp; cases hp
theorem part_rd {t : TypeId} {i : TyI} (ht : C.ty t = some i) {G : Gh} {w : World} {cs : List AV} {vs : Array Value} {k : Nat} (hl : vs.size = cs.length)
    (hv : ∀ (i : Nat) (c : AV) (v : Value), cs[i]? = some c → vs[i]? = some v → Rep G c v) (hk : rdOK i cs k) : ∃ v, (part t vs k).run C.P w = .ok v w ∧ Rep G (rdC i cs k) v := by
  obtain ⟨h1, h2⟩ := hk
  simp only [part, Sem.run_bind, C.run_isAgg ht, Result.andThen_ok, rdC]
  by_cases ha : isAggD i.desc = true
  · simp only [ha, if_true, Sem.run_bind, C.run_size ht, Result.andThen_ok, Sem.run_pure]
    refine ⟨_, rfl, .agg _ _ (by simp; omega) fun j c v hj hv' => ?_⟩
    have hjs : j < i.size := by
      have := (List.getElem?_eq_some_iff.1 hj).1
      simp at this; omega
    simp only [List.getElem?_take, hjs, if_true, List.getElem?_drop] at hj
    rw [Array.getElem?_extract] at hv'
    split at hv'
    · exact hv _ c v hj hv'
    · cases hv'
  · have hk' : k < vs.size := by have := h2 (by simpa using ha); omega
    have hkc : k < cs.length := by omega
    refine ⟨vs[k], by simp [ha, hk'], ?_⟩
    simp only [ha, if_false, Bool.false_eq_true]
    rw [List.getD_eq_getElem?_getD, List.getElem?_eq_getElem hkc]
    exact hv k _ _ (List.getElem?_eq_getElem hkc) (by simp [hk'])
theorem snd_field {t : TypeId} {ti fi : TyI} {fs : Array Field} {x : Operand} {f : Nat} {fl : Field} {cs : List AV} (ht : C.ty t = some ti) (hd : ti.desc = .struct fs) (hf : fs[f]? = some fl) (hfi : C.ty fl.type = some fi)
    (ho : o.op = .field t x f) (hx : ρ x = .agg cs) : Snd C o ρ σ ⟨rdOK fi cs fl.offset, rdC fi cs fl.offset, σ⟩ :=
  snd_pure fun hc w0 G a w hi hr => by
    have hp := hr x (by simp [ho, Op.operands])
    rw [hx] at hp
    cases hv : a.eval x with
    | agg vs =>
      rw [hv] at hp
      cases hp with
      | agg _ _ hl hvv =>
        obtain ⟨v, h1, h2⟩ := part_rd (w := w) hfi hl hvv hc
        exact ⟨v, by simp [execOp, ho, Instr.field, C.run_und ht, hd, hf, hv, asAgg, h1], h2⟩
    | _ => rw [hv] at hp; cases hp
theorem snd_index_arr {t e : TypeId} {ti ei : TyI} {n : Nat} {x ix : Operand} {cs : List AV} (ht : C.ty t = some ti) (hd : ti.desc = .array n e) (he : C.ty e = some ei) (ho : o.op = .index t x ix) (hx : ρ x = .agg cs) :
    Snd C o ρ σ ⟨(ρ ix).isInt = true ∧ 0 ≤ (ρ ix).theI ∧ (ρ ix).theI < n ∧ rdOK ei cs ((ρ ix).theI.toNat * ei.size), rdC ei cs ((ρ ix).theI.toNat * ei.size), σ⟩ :=
  snd_pure fun ⟨hb, h0, h1, hc⟩ w0 G a w hi hr => by
    have hp := hr x (by simp [ho, Op.operands])
    rw [hx] at hp
    have hi' := (hr ix (by simp [ho, Op.operands])).isInt hb
    cases hv : a.eval x with
    | agg vs =>
      rw [hv] at hp
      cases hp with
      | agg _ _ hl hvv =>
        obtain ⟨v, e1, e2⟩ := part_rd (w := w) he hl hvv hc
        exact ⟨v, by simp [execOp, ho, Instr.index, hi', asIntOf, C.run_und ht, hd, hv, h0, h1, C.run_size he, e1], e2⟩
    | _ => rw [hv] at hp; cases hp
def byteAt (s : ByteArray) (n : Nat) : Int := ((s.data.getD n 0).toNat : Int)
theorem snd_index_str {t : TypeId} {ti : TyI} {x ix : Operand} {s : ByteArray} (ht : C.ty t = some ti) (hd : ti.desc = .string) (ho : o.op = .index t x ix) (hx : ρ x = .str s) :
    Snd C o ρ σ ⟨(ρ ix).isInt = true ∧ 0 ≤ (ρ ix).theI ∧ (ρ ix).theI < s.size, .int .u8 (byteAt s (ρ ix).theI.toNat), σ⟩ :=
  snd_pure fun ⟨hb, h0, h1⟩ w0 G a w hi hr => by
    have hp := hr x (by simp [ho, Op.operands])
    rw [hx] at hp
    have hi' := (hr ix (by simp [ho, Op.operands])).isInt hb
    generalize (ρ ix).theI = n at *
    cases hv : a.eval x with
    | string s' =>
      rw [hv] at hp
      cases hp
      have hn : n.toNat < s.size := by omega
      have hg : s[n.toNat]? = some (s[n.toNat]'hn) := by simp [getElem?_pos, hn]
      refine ⟨.int .u8 ((s[n.toNat]'hn).toNat : Int), by simp [execOp, ho, Instr.index, hi', asIntOf, C.run_und ht, hd, hv, h0, hg], ?_⟩
      have : byteAt s n.toNat = ((s[n.toNat]'hn).toNat : Int) := by
        unfold byteAt
        have h' : n.toNat < s.data.size := hn
        rw [Array.getD_eq_getD_getElem?, Array.getElem?_eq_getElem h']; rfl
      rw [this]; exact .int _ _
    | _ => rw [hv] at hp; cases hp
theorem snd_extract {x : Operand} {k : Nat} {vs : List AV} {v : AV} (ho : o.op = .extract x k) (hx : ρ x = .tup vs) (hk : vs[k]? = some v) : Snd C o ρ σ ⟨True, v, σ⟩ :=
  snd_pure fun _ w0 G a w hi hr => by
    have hp := hr x (by simp [ho, Op.operands])
    rw [hx] at hp
    cases hv : a.eval x with
    | tuple us =>
      rw [hv] at hp
      cases hp with
      | tup _ _ hl hvv =>
        have hk' : k < us.size := by rw [hl]; exact (List.getElem?_eq_some_iff.1 hk).1
        exact ⟨us[k], by simp [execOp, ho, Instr.extract, hv, hk'], hvv k v _ hk (by simp [hk'])⟩
    | _ => rw [hv] at hp; cases hp
def shlI (k : IntKind) (a b : Int) : Int := k.wrap (a * 2 ^ (min b.toNat k.bits))
def shrI (k : IntKind) (a b : Int) : Int := a.fdiv (2 ^ (min b.toNat k.bits))
def andI (k : IntKind) (a b : Int) : Int := k.wrap ((BitVec.ofInt k.bits a &&& BitVec.ofInt k.bits b).toNat : Int)
def orI (k : IntKind) (a b : Int) : Int := k.wrap ((BitVec.ofInt k.bits a ||| BitVec.ofInt k.bits b).toNat : Int)
def xorI (k : IntKind) (a b : Int) : Int := k.wrap ((BitVec.ofInt k.bits a ^^^ BitVec.ofInt k.bits b).toNat : Int)
def anI (k : IntKind) (a b : Int) : Int := k.wrap ((BitVec.ofInt k.bits a &&& ~~~ BitVec.ofInt k.bits b).toNat : Int)
def aInt (op : BinOp) (k : IntKind) (a : Int) (k2 : IntKind) (b : Int) : Prop × AV :=
  match op with
  | .shl => (0 ≤ b, .int k (shlI k a b))
  | .shr => (0 ≤ b, .int k (shrI k a b))
  | .add => (k = k2, .int k (k.wrap (a + b)))
  | .sub => (k = k2, .int k (k.wrap (a - b)))
  | .mul => (k = k2, .int k (k.wrap (a * b)))
  | .quo => (k = k2 ∧ b ≠ 0, .int k (k.wrap (a.tdiv b)))
  | .rem => (k = k2 ∧ b ≠ 0, .int k (a.tmod b))
  | .and => (k = k2, .int k (andI k a b))
  | .or => (k = k2, .int k (orI k a b))
  | .xor => (k = k2, .int k (xorI k a b))
  | .andNot => (k = k2, .int k (anI k a b))
  | .eql => (k = k2, .bool (a == b))
  | .neq => (k = k2, .bool (a != b))
  | .lss => (k = k2, .bool (decide (a < b)))
  | .leq => (k = k2, .bool (decide (a ≤ b)))
  | .gtr => (k = k2, .bool (decide (a > b)))
  | .geq => (k = k2, .bool (decide (a ≥ b)))
theorem snd_bin_int {op : BinOp} {t t' : TypeId} {x y : Operand} {k k2 : IntKind} {n m : Int} (ho : o.op = .binOp op t x y t') (hx : ρ x = .int k n) (hy : ρ y = .int k2 m) :
    Snd C o ρ σ ⟨(aInt op k n k2 m).1, (aInt op k n k2 m).2, σ⟩ :=
  snd_pure fun hc w0 G a w hi hr => by
    have e1 := (hr x (by simp [ho, Op.operands])).isInt (by rw [hx]; rfl)
    have e2 := (hr y (by simp [ho, Op.operands])).isInt (by rw [hy]; rfl)
    rw [hx] at e1
    rw [hy] at e2
    simp only [AV.theK, AV.theI] at e1 e2
    cases op <;> simp only [aInt, shlI, shrI, andI, orI, xorI, anI] at hc ⊢
    case shl => exact ⟨_, by simp [execOp, ho, e1, e2, eqGuard, binOp, Op.shift, Int.not_lt.2 hc], .int _ _⟩
    case shr => exact ⟨_, by simp [execOp, ho, e1, e2, eqGuard, binOp, Op.shift, Int.not_lt.2 hc], .int _ _⟩
    case quo => exact ⟨_, by simp [execOp, ho, e1, e2, eqGuard, binOp, Op.intDiv, hc.1, hc.2], .int _ _⟩
    case rem => exact ⟨_, by simp [execOp, ho, e1, e2, eqGuard, binOp, Op.intDiv, hc.1, hc.2], .int _ _⟩
    case add => exact ⟨_, by simp [execOp, ho, e1, e2, eqGuard, binOp, Op.intArith, hc], .int _ _⟩
    case sub => exact ⟨_, by simp [execOp, ho, e1, e2, eqGuard, binOp, Op.intArith, hc], .int _ _⟩
    case mul => exact ⟨_, by simp [execOp, ho, e1, e2, eqGuard, binOp, Op.intArith, hc], .int _ _⟩
    case and => subst hc; exact ⟨_, by simp only [execOp, ho, e1, e2, eqGuard, binOp, Op.intBits, Sem.run_bind, ne_eq, not_true_eq_false, if_false]; rfl, .int _ _⟩
    case or => subst hc; exact ⟨_, by simp only [execOp, ho, e1, e2, eqGuard, binOp, Op.intBits, Sem.run_bind, ne_eq, not_true_eq_false, if_false]; rfl, .int _ _⟩
    case xor => subst hc; exact ⟨_, by simp only [execOp, ho, e1, e2, eqGuard, binOp, Op.intBits, Sem.run_bind, ne_eq, not_true_eq_false, if_false]; rfl, .int _ _⟩
    case andNot => subst hc; exact ⟨_, by simp only [execOp, ho, e1, e2, eqGuard, binOp, Op.intBits, Sem.run_bind, ne_eq, not_true_eq_false, if_false]; rfl, .int _ _⟩
    case eql => exact ⟨.bool (n == m), by simp [execOp, ho, e1, e2, eqGuard, binOp, Op.intCmp, hc], .bool _⟩
    case neq => exact ⟨.bool (n != m), by simp [execOp, ho, e1, e2, eqGuard, binOp, Op.intCmp, hc], .bool _⟩
    case lss => exact ⟨.bool (decide (n < m)), by simp [execOp, ho, e1, e2, eqGuard, binOp, Op.intCmp, hc], .bool _⟩
    case leq => exact ⟨.bool (decide (n ≤ m)), by simp [execOp, ho, e1, e2, eqGuard, binOp, Op.intCmp, hc], .bool _⟩
    case gtr => exact ⟨.bool (decide (n > m)), by simp [execOp, ho, e1, e2, eqGuard, binOp, Op.intCmp, hc], .bool _⟩
    case geq => exact ⟨.bool (decide (n ≥ m)), by simp [execOp, ho, e1, e2, eqGuard, binOp, Op.intCmp, hc], .bool _⟩
def aStr (op : BinOp) (a b : ByteArray) : Prop × AV :=
  match op with
  | .add => ((a.size + b.size : Nat) ≤ (9223372036854775807 : Int), .str (a ++ b))
  | .eql => (True, .bool (a.toList == b.toList))
  | .neq => (True, .bool (!(a.toList == b.toList)))
  | .lss => (True, .bool (Op.bytesLess a.toList b.toList))
  | .leq => (True, .bool (Op.bytesLess a.toList b.toList || a.toList == b.toList))
  | .gtr => (True, .bool (!(Op.bytesLess a.toList b.toList || a.toList == b.toList)))
  | .geq => (True, .bool (!(Op.bytesLess a.toList b.toList)))
  | _ => (False, .undef)
theorem Rep.isStr {G : Gh} {s : ByteArray} {v : Value} (h : Rep G (.str s) v) : v = .string s := by cases h; rfl
theorem snd_bin_str {op : BinOp} {t t' : TypeId} {x y : Operand} {n m : ByteArray} (ho : o.op = .binOp op t x y t') (hx : ρ x = .str n) (hy : ρ y = .str m) :
    Snd C o ρ σ ⟨(aStr op n m).1, (aStr op n m).2, σ⟩ :=
  snd_pure fun hc w0 G a w hi hr => by
    have e1 := hr x (by simp [ho, Op.operands])
    have e2 := hr y (by simp [ho, Op.operands])
    rw [hx] at e1
    rw [hy] at e2
    replace e1 := e1.isStr
    replace e2 := e2.isStr
    cases op <;> simp only [aStr] at hc ⊢
    case add =>
      have hm : IntKind.i64.max = 9223372036854775807 := by decide
      exact ⟨_, by simp [execOp, ho, e1, e2, eqGuard, binOp, Op.stringOp, hm]; omega, .str _⟩
    case eql => exact ⟨_, by simp [execOp, ho, e1, e2, eqGuard, binOp, Op.stringOp], .bool _⟩
    case neq => exact ⟨_, by simp [execOp, ho, e1, e2, eqGuard, binOp, Op.stringOp], .bool _⟩
    case lss => exact ⟨_, by simp [execOp, ho, e1, e2, eqGuard, binOp, Op.stringOp], .bool _⟩
    case leq => exact ⟨_, by simp [execOp, ho, e1, e2, eqGuard, binOp, Op.stringOp], .bool _⟩
    case gtr => exact ⟨_, by simp [execOp, ho, e1, e2, eqGuard, binOp, Op.stringOp], .bool _⟩
    case geq => exact ⟨_, by simp [execOp, ho, e1, e2, eqGuard, binOp, Op.stringOp], .bool _⟩
    all_goals exact hc.elim
theorem run_equal_bool {t : TypeId} {ti : TyI} (ht : C.ty t = some ti) (hd : ti.desc = .bool) (n m : Bool) (w : World) : (Op.equal t (.bool n) (.bool m)).run C.P w = .ok (n == m) w := by
  have e : Op.equal t (.bool n) (.bool m) = Op.equalIn (9999 + 1) t (.bool n) (.bool m) := rfl
  rw [e]
  generalize 9999 = d
  simp only [Op.equalIn, Sem.run_bind, C.run_und ht, Result.andThen_ok, hd, Sem.run_pure]
theorem snd_bin_bool {op : BinOp} {t t' : TypeId} {ti : TyI} {x y : Operand} {n m : Bool} (ht : C.ty t = some ti) (hd : ti.desc = .bool) (ho : o.op = .binOp op t x y t') (hx : ρ x = .bool n) (hy : ρ y = .bool m) :
    Snd C o ρ σ ⟨op = .eql ∨ op = .neq, .bool (if op = .eql then n == m else !(n == m)), σ⟩ :=
  snd_pure fun hc w0 G a w hi hr => by
    have e1 := (hr x (by simp [ho, Op.operands])).isBool (by rw [hx]; rfl)
    have e2 := (hr y (by simp [ho, Op.operands])).isBool (by rw [hy]; rfl)
    rw [hx] at e1
    rw [hy] at e2
    simp only [AV.theB] at e1 e2
    rcases hc with rfl | rfl
    · exact ⟨.bool (n == m), by simp only [execOp, ho, e1, e2, eqGuard, binOp, Sem.run_bind, Sem.run_pure, run_equal_bool ht hd, Result.andThen_ok]; rfl, .bool _⟩
    · exact ⟨.bool (!(n == m)), by simp only [execOp, ho, e1, e2, eqGuard, binOp, Sem.run_bind, Sem.run_pure, run_equal_bool ht hd, Result.andThen_ok]; rfl, .bool _⟩
theorem snd_not {t : TypeId} {x : Operand} (ho : o.op = .unOp .not t x) : Snd C o ρ σ ⟨(ρ x).isBool = true, .bool (!(ρ x).theB), σ⟩ :=
  snd_pure fun hc w0 G a w hi hr => by
    have e1 := (hr x (by simp [ho, Op.operands])).isBool hc
    exact ⟨_, by simp [execOp, ho, e1, Op.unary], .bool _⟩
theorem snd_neg {t : TypeId} {x : Operand} {k : IntKind} {n : Int} (ho : o.op = .unOp .neg t x) (hx : ρ x = .int k n) : Snd C o ρ σ ⟨True, .int k (k.wrap (0 - n)), σ⟩ :=
  snd_pure fun hc w0 G a w hi hr => by
    have e1 := (hr x (by simp [ho, Op.operands])).isInt (by rw [hx]; rfl)
    rw [hx] at e1
    simp only [AV.theK, AV.theI] at e1
    exact ⟨.int k (k.wrap (0 - n)), by simp only [execOp, ho, e1, Op.unary, Op.intArith, Sem.run_bind, Sem.run_pure, Result.andThen_ok], .int _ _⟩
theorem snd_inv {t : TypeId} {x : Operand} {k : IntKind} {n : Int} (ho : o.op = .unOp .xor t x) (hx : ρ x = .int k n) :
    Snd C o ρ σ ⟨True, .int k (k.wrap ((BitVec.ofInt k.bits (if k.signed then -1 else k.max) ^^^ BitVec.ofInt k.bits n).toNat : Int)), σ⟩ :=
  snd_pure fun hc w0 G a w hi hr => by
    have e1 := (hr x (by simp [ho, Op.operands])).isInt (by rw [hx]; rfl)
    rw [hx] at e1
    simp only [AV.theK, AV.theI] at e1
    exact ⟨_, by simp only [execOp, ho, e1, Op.unary, Op.intBits, Sem.run_bind]; rfl, .int _ _⟩
theorem snd_nilCheck {x : Operand} (ho : o.op = .nilCheck x) : Snd C o ρ σ ⟨(ρ x).isAddr = true ∨ ∃ f cs, ρ x = .fn f cs, ρ x, σ⟩ :=
  snd_pure fun hc w0 G a w hi hr => by
    have hp := hr x (by simp [ho, Op.operands])
    rcases hc with hc | ⟨f, cs, hc⟩
    · obtain ⟨b, k, hv, hn⟩ := hp.shift hc
      exact ⟨a.eval x, by simp [execOp, ho, hv], hp⟩
    · rw [hc] at hp ⊢
      cases hv : a.eval x with
      | func fn first cap =>
        rw [hv] at hp
        cases hp with
        | fn _ _ _ hl hvv => exact ⟨_, by simp [execOp, ho, hv], .fn f cs _ hl hvv⟩
      | _ => rw [hv] at hp; cases hp
theorem snd_makeFunc {f : FuncId} {cap : Array Operand} (ho : o.op = .makeFunc (.func f) #[] cap) : Snd C o ρ σ ⟨True, .fn f (cap.toList.map ρ), σ⟩ :=
  snd_pure fun hc w0 G a w hi hr => by
    refine ⟨.func (.func f) #[] (cap.map a.eval), by simp [execOp, ho, Instr.makeFunc], .fn f _ _ (by simp) fun i c v h1 h2 => ?_⟩
    simp only [List.getElem?_map, Array.getElem?_toList, Array.getElem?_map] at h1 h2
    cases hx : cap[i]? with
    | none => simp [hx] at h1
    | some x =>
      simp only [hx, Option.map_some, Option.some.injEq] at h1 h2
      subst h1; subst h2
      refine hr x ?_
      simp only [ho, Op.operands, Array.toList_append, List.mem_append]
      exact .inr (Array.mem_toList_iff.2 (Array.mem_of_getElem? hx))
theorem snd_convert_int {src dst : TypeId} {si di : TyI} {x : Operand} {k q : IntKind} {n : Int} (hs : C.ty src = some si) (hd : C.ty dst = some di) (hq : di.desc = .int q) (ho : o.op = .convert src dst x) (hx : ρ x = .int k n) :
    Snd C o ρ σ ⟨True, .int q (q.wrap n), σ⟩ :=
  snd_pure fun hc w0 G a w hi hr => by
    have e1 := (hr x (by simp [ho, Op.operands])).isInt (by rw [hx]; rfl)
    rw [hx] at e1
    simp only [AV.theK, AV.theI] at e1
    exact ⟨_, by simp [execOp, ho, e1, convert, C.run_und hs, C.run_und hd, hq, Conv.intToInt], .int _ _⟩
theorem snd_convert_str {src dst : TypeId} {si di : TyI} {x : Operand} {s : ByteArray} (hs : C.ty src = some si) (hd : C.ty dst = some di) (hq : di.desc = .string) (ho : o.op = .convert src dst x) (hx : ρ x = .str s) :
    Snd C o ρ σ ⟨True, .str s, σ⟩ :=
  snd_pure fun hc w0 G a w hi hr => by
    have e1 := hr x (by simp [ho, Op.operands])
    rw [hx] at e1
    replace e1 := e1.isStr
    exact ⟨.string s, by cases h : si.desc <;> simp [execOp, ho, e1, convert, C.run_und hs, C.run_und hd, hq, h], .str _⟩
theorem snd_makeInterface {t : TypeId} {ti : TyI} {x : Operand} (ht : C.ty t = some ti) (ho : o.op = .makeInterface t x) : Snd C o ρ σ ⟨∀ ms, ti.desc ≠ .interface ms, .iface t (ρ x), σ⟩ :=
  snd_pure fun hc w0 G a w hi hr => by
    refine ⟨.iface t (a.eval x), ?_, .iface _ _ _ (hr x (by simp [ho, Op.operands]))⟩
    simp only [execOp, ho, Instr.makeInterface, Sem.run_bind, C.run_und ht, Result.andThen_ok]
    cases h : ti.desc with
    | interface ms => exact absurd h (hc ms)
    | _ => rfl
theorem snd_len_str {t : TypeId} {ti : TyI} {x : Operand} {s : ByteArray} (ht : C.ty t = some ti) (hd : ti.desc = .string) (ho : o.op = .call { callee := .builtin .len, args := #[x], argTypes := #[t] }) (hx : ρ x = .str s) :
    Snd C o ρ σ ⟨True, .int .i64 s.size, σ⟩ :=
  snd_pure fun _ w0 G a w hi hr => by
    have e1 := hr x (by simp [ho, Op.operands, Call.operands])
    rw [hx] at e1
    replace e1 := e1.isStr
    exact ⟨_, by simp [execOp, ho, resolve, invoke, builtin, Builtin.len_, C.run_und ht, hd, e1, goInt], .int _ _⟩
theorem snd_len_list {t e : TypeId} {ti : TyI} {x : Operand} {f : Bool} {xs : List AV} (ht : C.ty t = some ti) (hd : ti.desc = .slice e) (ho : o.op = .call { callee := .builtin .len, args := #[x], argTypes := #[t] }) (hx : ρ x = .list f xs) :
    Snd C o ρ σ ⟨True, .int .i64 xs.length, σ⟩ :=
  snd_pure fun _ w0 G a w hi hr => by
    have hp := hr x (by simp [ho, Op.operands, Call.operands])
    rw [hx] at hp
    cases hv : a.eval x with
    | slice ad len cap =>
      rw [hv] at hp
      have hl : len = xs.length := by cases hp <;> first | rfl | (symm; assumption)
      exact ⟨_, by simp [execOp, ho, resolve, invoke, builtin, Builtin.len_, C.run_und ht, hd, hv, goInt, hl], .int _ _⟩
    | _ => rw [hv] at hp; cases hp
theorem snd_len_row {t e : TypeId} {ti : TyI} {x : Operand} {id off len : Nat} (ht : C.ty t = some ti) (hd : ti.desc = .slice e) (ho : o.op = .call { callee := .builtin .len, args := #[x], argTypes := #[t] }) (hx : ρ x = .row id off len) :
    Snd C o ρ σ ⟨True, .int .i64 len, σ⟩ :=
  snd_pure fun _ w0 G a w hi hr => by
    have hp := hr x (by simp [ho, Op.operands, Call.operands])
    rw [hx] at hp
    cases hv : a.eval x with
    | slice ad len cap =>
      rw [hv] at hp
      cases hp
      exact ⟨_, by simp [execOp, ho, resolve, invoke, builtin, Builtin.len_, C.run_und ht, hd, hv, goInt], .int _ _⟩
    | _ => rw [hv] at hp; cases hp
theorem snd_len_arr {t e : TypeId} {ti : TyI} {n : Nat} {x : Operand} (ht : C.ty t = some ti) (hd : ti.desc = .array n e) (ho : o.op = .call { callee := .builtin .len, args := #[x], argTypes := #[t] }) :
    Snd C o ρ σ ⟨True, .int .i64 n, σ⟩ :=
  snd_pure fun _ w0 G a w hi hr => ⟨_, by simp [execOp, ho, resolve, invoke, builtin, Builtin.len_, C.run_und ht, hd, goInt], .int _ _⟩
theorem snd_max {t : Array TypeId} {x y : Operand} {k q : IntKind} {n m : Int} (ho : o.op = .call { callee := .builtin .max, args := #[x, y], argTypes := t }) (hx : ρ x = .int k n) (hy : ρ y = .int q m) :
    Snd C o ρ σ ⟨True, .int k (if m > n then m else n), σ⟩ :=
  snd_pure fun _ w0 G a w hi hr => by
    have e1 := (hr x (by simp [ho, Op.operands, Call.operands])).isInt (by rw [hx]; rfl)
    have e2 := (hr y (by simp [ho, Op.operands, Call.operands])).isInt (by rw [hy]; rfl)
    rw [hx] at e1
    rw [hy] at e2
    simp only [AV.theK, AV.theI] at e1 e2
    exact ⟨_, by simp only [execOp, ho, resolve, invoke, builtin, Builtin.max_, Sem.run_bind, Sem.run_pure, Result.andThen_ok]; simp [e1, e2, Builtin.max2], .int _ _⟩
theorem snd_min {t : Array TypeId} {x y : Operand} {k q : IntKind} {n m : Int} (ho : o.op = .call { callee := .builtin .min, args := #[x, y], argTypes := t }) (hx : ρ x = .int k n) (hy : ρ y = .int q m) :
    Snd C o ρ σ ⟨True, .int k (if m < n then m else n), σ⟩ :=
  snd_pure fun _ w0 G a w hi hr => by
    have e1 := (hr x (by simp [ho, Op.operands, Call.operands])).isInt (by rw [hx]; rfl)
    have e2 := (hr y (by simp [ho, Op.operands, Call.operands])).isInt (by rw [hy]; rfl)
    rw [hx] at e1
    rw [hy] at e2
    simp only [AV.theK, AV.theI] at e1 e2
    exact ⟨_, by simp only [execOp, ho, resolve, invoke, builtin, Builtin.min_, Sem.run_bind, Sem.run_pure, Result.andThen_ok]; simp [e1, e2, Builtin.min2], .int _ _⟩
end ops
end Go.Lg
/- Lg, part E: struct, array and slice literals. -/
namespace Go.Lg
open Go.RowKit
def CR (G : Gh) (cells : List AV) (vs : Array Value) : Prop := vs.size = cells.length ∧ ∀ (i : Nat) (c : AV), cells[i]? = some c → ∃ u : Value, vs[i]? = some u ∧ Rep G c u
theorem CR.agg {G : Gh} {cells : List AV} {vs : Array Value} (h : CR G cells vs) : Rep G (.agg cells) (.agg vs) :=
  .agg _ _ h.1 fun i c v h1 h2 => by
    obtain ⟨u, hu, hr⟩ := h.2 i c h1
    rw [h2] at hu
    cases hu
    exact hr
theorem CR.wr {G : Gh} {cells xs : List AV} {vs ws : Array Value} (h : CR G cells vs) (k : CR G xs ws) {off : Nat} (hf : off + xs.length ≤ cells.length) : CR G (Lg.wr cells off xs) (wrV vs off ws.toList) := by
  have hl : ws.toList.length = xs.length := by simp [k.1]
  refine ⟨by rw [wrV_size (by rw [hl, h.1]; exact hf), wr_length hf, h.1], fun i c hc => ?_⟩
  rw [wr_get hf] at hc
  rw [wrV_get (by rw [hl, h.1]; exact hf)]
  by_cases e : off ≤ i ∧ i < off + xs.length
  · rw [if_pos e] at hc
    rw [if_pos (by omega), Array.getElem?_toList]
    exact k.2 _ c hc
  · rw [if_neg e] at hc
    rw [if_neg (by omega)]
    exact h.2 i c hc
theorem fold_set (off : Nat) : ∀ (xs : List Value) (j : Nat) (cells : Array Value),
    ((xs.zipIdx j).foldl (fun cs (x : Value × Nat) => cs.setIfInBounds (off + x.2) x.1) cells).size = cells.size ∧
    ∀ k, off + j + xs.length ≤ cells.size → ((xs.zipIdx j).foldl (fun cs (x : Value × Nat) => cs.setIfInBounds (off + x.2) x.1) cells)[k]? = if off + j ≤ k ∧ k < off + j + xs.length then xs[k - (off + j)]? else cells[k]?
  | [], j, cells => ⟨by simp, fun k _ => by simp; intro h1 h2; omega⟩
  | x :: xs, j, cells => by
    obtain ⟨h1, h2⟩ := fold_set off xs (j + 1) (cells.setIfInBounds (off + j) x)
    simp only [List.zipIdx_cons, List.foldl_cons]
    refine ⟨by rw [h1]; simp, fun k hk => ?_⟩
    rw [h2 k (by simp at hk ⊢; omega)]
    simp only [List.length_cons] at hk ⊢
    by_cases e : k = off + j
    · subst e
      rw [if_neg (by omega), if_pos (by omega), Nat.sub_self]
      rw [Array.getElem?_setIfInBounds_self_of_lt (by omega)]; rfl
    · rw [Array.getElem?_setIfInBounds_ne (fun h => e h.symm)]
      by_cases e2 : off + j ≤ k ∧ k < off + j + (xs.length + 1)
      · rw [if_pos (by omega), if_pos e2]
        have : k - (off + j) = (k - (off + (j + 1))) + 1 := by omega
        rw [this, List.getElem?_cons_succ]
      · rw [if_neg (by omega), if_neg e2]
theorem fold_wrV {cells : Array Value} {v : Value} {off : Nat} (h : off + v.cells.size ≤ cells.size) : v.cells.zipIdx.foldl (fun cs (x : Value × Nat) => cs.setIfInBounds (off + x.2) x.1) cells = wrV cells off v.cells.toList := by
  rw [← Array.foldl_toList, Array.toList_zipIdx]
  obtain ⟨h1, h2⟩ := fold_set off v.cells.toList 0 cells
  apply Array.ext_getElem?
  intro k
  rw [h2 k (by simpa using h), wrV_get (by simpa using h)]
  simp
def fillA (place : Nat → Option (Nat × Nat)) (cells : List AV) : List (Nat × AV) → Option (List AV)
  | [] => some cells
  | (i, v) :: rest =>
    match place i with
    | none => none
    | some (off, size) => if v.def = true ∧ v.cells.length = size ∧ off + size ≤ cells.length then fillA place (wr cells off v.cells) rest else none
theorem fill_rep {G : Gh} {place : Nat → Option (Nat × Nat)} (f : Operand → AV) (g : Operand → Value) : ∀ (parts : List (Nat × Operand)) (cells : List AV) (vs : Array Value) (r : List AV), CR G cells vs → (∀ p ∈ parts, Rep G (f p.2) (g p.2)) →
    fillA place cells (parts.map fun p => (p.1, f p.2)) = some r → ∃ vs', Instr.fill place vs (parts.map fun p => (p.1, g p.2)) = some vs' ∧ CR G r vs'
  | [], cells, vs, r, h, _, hr => by
    simp only [List.map_nil, fillA, Option.some.injEq] at hr
    subst hr
    exact ⟨vs, rfl, h⟩
  | p :: parts, cells, vs, r, h, hp, hr => by
    simp only [List.map_cons, fillA] at hr
    cases hpl : place p.1 with
    | none => rw [hpl] at hr; cases hr
    | some os =>
      obtain ⟨off, size⟩ := os
      rw [hpl] at hr
      simp only at hr
      split at hr
      · rename_i hc
        obtain ⟨c1, c2, c3⟩ := hc
        have hq := (hp p (by simp)).cells c1
        have hcr := h.wr (xs := (f p.2).cells) (ws := (g p.2).cells) ⟨hq.1, hq.2⟩ (off := off) (by omega)
        have hsz : (g p.2).cells.size = size := by rw [hq.1, c2]
        obtain ⟨vs', h1, h2⟩ := fill_rep f g parts _ _ r hcr (fun q hq => hp q (by simp [hq])) hr
        refine ⟨vs', ?_, h2⟩
        simp only [List.map_cons, Instr.fill, hpl]
        have hle : ¬ (off + (g p.2).cells.size > vs.size) := by rw [h.1]; omega
        simp only [hsz, ne_eq, not_true_eq_false, decide_false, Bool.false_or]
        rw [hsz] at hle
        simp only [hle, decide_false, Bool.false_eq_true, if_false]
        rw [fold_wrV (by rw [h.1]; omega)]
        exact h1
      · cases hr
def szOf (C : Cx) (t : TypeId) : Nat := match C.ty t with | some i => i.size | none => 0
def placesOf (C : Cx) (fs : List Field) : Nat → Option (Nat × Nat) := fun i => (fs[i]?).map fun f => (f.offset, szOf C f.type)
theorem run_mapM_list {P : Program} {α β : Type} (f : α → Sem β) (g : α → β) (w : World) : ∀ (xs : List α), (∀ x ∈ xs, (f x).run P w = .ok (g x) w) → (xs.mapM f).run P w = .ok (xs.map g) w
  | [], _ => by simp
  | x :: xs, h => by
    have ih := run_mapM_list f g w xs fun y hy => h y (by simp [hy])
    simp [List.mapM_cons, h x (by simp), ih]
section ops
variable {C : Cx} {o : Oper} {ρ : Operand → AV} {σ : Sto}
theorem ofV_cells (G : Gh) (v : Value) (hd : (ofV v).def = true) : CR G (ofV v).cells v.cells := (rep_ofV G v).cells hd
theorem snd_build_struct {t : TypeId} {ti : TyI} {fs : Array Field} {parts : Array (Nat × Operand)} (ht : C.ty t = some ti) (hd : ti.desc = .struct fs) (hfs : fs.toList.all (fun f => (C.ty f.type).isSome) = true)
    (ho : o.op = .build t parts) :
    Snd C o ρ σ ⟨(ofV ti.zero).def = true ∧ (fillA (placesOf C fs.toList) (ofV ti.zero).cells (parts.toList.map fun p => (p.1, ρ p.2))).isSome = true,
      .agg ((fillA (placesOf C fs.toList) (ofV ti.zero).cells (parts.toList.map fun p => (p.1, ρ p.2))).getD []), σ⟩ :=
  snd_pure fun ⟨hz, hc⟩ w0 G a w hi hr => by
    obtain ⟨r, hr'⟩ := Option.isSome_iff_exists.1 hc
    rw [hr']
    obtain ⟨vs', h1, h2⟩ := fill_rep (G := G) ρ a.eval parts.toList _ _ r (ofV_cells G ti.zero hz) (fun p hp => hr p.2 (by
      simp only [ho, Op.operands]
      rw [List.toList_toArray]
      exact List.mem_map.2 ⟨p, hp, rfl⟩)) hr'
    refine ⟨.agg vs', ?_, h2.agg⟩
    have hm : (fs.mapM fun f => (do pure (f.offset, ← sizeOf f.type) : Sem (Nat × Nat))).run C.P w = .ok ((fs.toList.map fun f => (f.offset, szOf C f.type)).toArray) w := by
      rw [Array.mapM_eq_mapM_toList]
      have := run_mapM_list (P := C.P) (fun f : Field => (do pure (f.offset, ← sizeOf f.type) : Sem (Nat × Nat))) (fun f => (f.offset, szOf C f.type)) w fs.toList (fun f hf => by
        obtain ⟨i, hi⟩ := Option.isSome_iff_exists.1 (List.all_eq_true.1 hfs f hf)
        simp [C.run_size hi, szOf, hi])
      simp only [Sem.run_map, this, Result.andThen_ok]
    have hpl : (fun i => ((fs.toList.map fun f => (f.offset, szOf C f.type)).toArray)[i]?) = placesOf C fs.toList := by
      funext i
      simp [placesOf]
    simp only [execOp, ho, Sem.run_bind, Instr.build, C.run_zero ht, Result.andThen_ok, C.run_und ht, hd, hm, Array.toList_map]
    rw [hpl, h1]
    simp
theorem snd_build_arr {t e : TypeId} {ti ei : TyI} {n : Nat} {parts : Array (Nat × Operand)} (ht : C.ty t = some ti) (hd : ti.desc = .array n e) (he : C.ty e = some ei) (ho : o.op = .build t parts) :
    Snd C o ρ σ ⟨(ofV ti.zero).def = true ∧ (fillA (fun i => some (i * ei.size, ei.size)) (ofV ti.zero).cells (parts.toList.map fun p => (p.1, ρ p.2))).isSome = true,
      .agg ((fillA (fun i => some (i * ei.size, ei.size)) (ofV ti.zero).cells (parts.toList.map fun p => (p.1, ρ p.2))).getD []), σ⟩ :=
  snd_pure fun ⟨hz, hc⟩ w0 G a w hi hr => by
    obtain ⟨r, hr'⟩ := Option.isSome_iff_exists.1 hc
    rw [hr']
    obtain ⟨vs', h1, h2⟩ := fill_rep (G := G) ρ a.eval parts.toList _ _ r (ofV_cells G ti.zero hz) (fun p hp => hr p.2 (by
      simp only [ho, Op.operands]
      rw [List.toList_toArray]
      exact List.mem_map.2 ⟨p, hp, rfl⟩)) hr'
    refine ⟨.agg vs', ?_, h2.agg⟩
    simp only [execOp, ho, Sem.run_bind, Instr.build, C.run_zero ht, Result.andThen_ok, C.run_und ht, hd, Array.toList_map, C.run_size he]
    rw [h1]
    simp
def flat (xs : List AV) : List AV := xs.flatMap AV.cells
theorem flat_get {es : Nat} : ∀ {xs : List AV}, (∀ x ∈ xs, x.cells.length = es) → (flat xs).length = xs.length * es ∧ ∀ i x k c, xs[i]? = some x → x.cells[k]? = some c → (flat xs)[i * es + k]? = some c
  | [], _ => ⟨by simp [flat], fun i x k c h => by simp at h⟩
  | y :: ys, h => by
    obtain ⟨h1, h2⟩ := flat_get (xs := ys) fun x hx => h x (by simp [hx])
    have hy := h y (by simp)
    refine ⟨by simp only [flat, List.flatMap_cons, List.length_append, hy, List.length_cons] at h1 ⊢; rw [h1, Nat.succ_mul]; omega, fun i x k c hx hc => ?_⟩
    simp only [flat, List.flatMap_cons] at h1 h2 ⊢
    cases i with
    | zero =>
      simp only [List.getElem?_cons_zero, Option.some.injEq] at hx
      subst hx
      rw [Nat.zero_mul, Nat.zero_add, List.getElem?_append_left (List.getElem?_eq_some_iff.1 hc).1]
      exact hc
    | succ i =>
      simp only [List.getElem?_cons_succ] at hx
      rw [List.getElem?_append_right (by rw [hy, Nat.succ_mul]; omega), hy]
      have : (i + 1) * es + k - es = i * es + k := by rw [Nat.succ_mul]; omega
      rw [this]
      exact h2 i x k c hx hc
theorem rep_list {G : Gh} {full : Bool} {xs : List AV} {b o cap es : Nat} {vs : Nat → Option Value} (hl : xs.length ≤ cap) (hf : full = true → cap = xs.length) (hs : ∀ x ∈ xs, x.cells.length = es)
    (hv : ∀ i x k c, xs[i]? = some x → x.cells[k]? = some c → ∃ v, G.I b (o + (i * es + k)) = some v ∧ Rep G c v) : Rep G (.list full xs) (.slice (some ⟨b, o, none⟩) xs.length cap) := by
  refine .list full xs b o xs.length cap es (fun i k => (G.I b (o + (i * es + k))).getD undef) rfl hl hf (fun i x h => hs x (mem_of_get h)) (fun i k hi hk => ?_) fun i x k c h1 h2 => ?_
  · have hx := List.getElem?_eq_getElem hi
    have hk' : k < (xs[i]).cells.length := by rw [hs _ (List.getElem_mem hi)]; exact hk
    obtain ⟨v, h, _⟩ := hv i _ k _ hx (List.getElem?_eq_getElem hk')
    rw [h]; rfl
  · obtain ⟨v, h, hr⟩ := hv i x k c h1 h2
    rw [h]; exact hr
def fillL (size : Nat) (xs : List AV) : List (Nat × AV) → Option (List AV)
  | [] => some xs
  | (i, v) :: rest => if v.def = true ∧ v.cells.length = size ∧ i < xs.length then fillL size (xs.set i v) rest else none
theorem flat_set {es : Nat} : ∀ {xs : List AV} {i : Nat} {v : AV}, (∀ x ∈ xs, x.cells.length = es) → v.cells.length = es → i < xs.length → flat (xs.set i v) = wr (flat xs) (i * es) v.cells
  | [], i, v, _, _, h => by simp at h
  | y :: ys, i, v, h, hv, hi => by
    have hy := h y (by simp)
    cases i with
    | zero =>
      simp only [List.set_cons_zero, flat, List.flatMap_cons, Nat.zero_mul, wr, List.take_zero, List.nil_append, Nat.zero_add, hv]
      rw [← hy, List.drop_left]
    | succ i =>
      have ih := flat_set (xs := ys) (i := i) (v := v) (fun x hx => h x (by simp [hx])) hv (by simpa using hi)
      simp only [flat, List.set_cons_succ, List.flatMap_cons, wr] at ih ⊢
      rw [ih, Nat.succ_mul, hv, Nat.add_comm (i * es) es]
      have h1 : (y.cells ++ List.flatMap AV.cells ys).take (es + i * es) = y.cells ++ (List.flatMap AV.cells ys).take (i * es) := by rw [← hy, List.take_length_add_append]
      have h2 : (y.cells ++ List.flatMap AV.cells ys).drop (es + i * es + es) = (List.flatMap AV.cells ys).drop (i * es + es) := by
        rw [Nat.add_assoc, ← hy, List.drop_length_add_append]
      rw [h1, h2]
      simp [List.append_assoc, Nat.add_comm es]
theorem fillL_flat {size : Nat} : ∀ (parts : List (Nat × AV)) (xs r : List AV), (∀ x ∈ xs, x.cells.length = size) → fillL size xs parts = some r →
    (∀ x ∈ r, x.cells.length = size) ∧ r.length = xs.length ∧ fillA (fun i => some (i * size, size)) (flat xs) parts = some (flat r)
  | [], xs, r, h, hr => by
    simp only [fillL, Option.some.injEq] at hr
    subst hr
    exact ⟨h, rfl, rfl⟩
  | (i, v) :: parts, xs, r, h, hr => by
    simp only [fillL] at hr
    split at hr
    · rename_i hc
      obtain ⟨c1, c2, c3⟩ := hc
      have hset : ∀ x ∈ xs.set i v, x.cells.length = size := by
        intro x hx
        rcases List.mem_or_eq_of_mem_set hx with h' | h'
        · exact h x h'
        · rw [h']; exact c2
      obtain ⟨h1, h2, h3⟩ := fillL_flat parts _ r hset hr
      refine ⟨h1, by rw [h2]; simp, ?_⟩
      simp only [fillA]
      have hle : i * size + size ≤ (flat xs).length := by
        rw [(flat_get h).1, ← Nat.succ_mul]; exact Nat.mul_le_mul_right _ c3
      rw [if_pos ⟨c1, c2, hle⟩, ← flat_set h c2 c3]
      exact h3
    · cases hr
theorem CR.flat {G : Gh} {xs : List AV} {vs : Array Value} {es : Nat} (h : CR G (flat xs) vs) (hs : ∀ x ∈ xs, x.cells.length = es) : ∀ i x k c, xs[i]? = some x → x.cells[k]? = some c → ∃ u, vs[i * es + k]? = some u ∧ Rep G c u :=
  fun i x k c h1 h2 => h.2 _ c ((flat_get hs).2 i x k c h1 h2)
theorem CR.mono {G G' : Gh} {xs : List AV} {vs : Array Value} (h : CR G xs vs) (le : G.le G') : CR G' xs vs := ⟨h.1, fun i c hc => (h.2 i c hc).imp fun u hu => ⟨hu.1, hu.2.mono le⟩⟩
theorem CR.zeros {G : Gh} {z : List AV} {zv : Array Value} (h : CR G z zv) (hz : 0 < z.length) (n : Nat) (y : AV) (hy : y.cells = z) :
    CR G (Lg.flat (List.replicate n y)) ((Array.range (n * z.length)).map (fun i => zv[i % zv.size]!)) := by
  have hall : ∀ x ∈ List.replicate n y, x.cells.length = z.length := fun x hx => by rw [List.eq_of_mem_replicate hx, hy]
  obtain ⟨h1, h2⟩ := flat_get hall
  refine ⟨by simp [h1], fun i c hc => ?_⟩
  have hi : i < n * z.length := by have := (List.getElem?_eq_some_iff.1 hc).1; rw [h1] at this; simpa using this
  have hq : i / z.length < n := Nat.div_lt_of_lt_mul (by rw [Nat.mul_comm]; exact hi)
  have hm : i % z.length < z.length := Nat.mod_lt _ hz
  have hc2 := h2 (i / z.length) y (i % z.length) (z[i % z.length]) (by simp [hq]) (by rw [hy]; exact List.getElem?_eq_getElem hm)
  rw [Nat.mul_comm, Nat.div_add_mod, hc] at hc2
  cases hc2
  obtain ⟨u, hu, hr⟩ := h.2 _ _ (List.getElem?_eq_getElem hm)
  refine ⟨u, ?_, hr⟩
  have hi' : i < (Array.range (n * z.length)).size := by simpa using hi
  rw [Array.getElem?_map, Array.getElem?_eq_getElem hi']
  simp only [Option.map_some, Array.getElem_range, h.1, Option.some.injEq]
  rw [getElem!_def, hu]
theorem snd_buildSlice {t e : TypeId} {ti ei : TyI} {n : Nat} {parts : Array (Nat × Operand)} (ht : C.ty t = some ti) (hd : ti.desc = .slice e) (he : C.ty e = some ei) (ho : o.op = .buildSlice t n parts) :
    Snd C o ρ σ ⟨(ofV ei.zero).def = true ∧ (ofV ei.zero).cells.length = ei.size ∧ 0 < ei.size ∧ n * ei.size ≤ 16777216 ∧ (fillL ei.size (List.replicate n (ofV ei.zero)) (parts.toList.map fun p => (p.1, ρ p.2))).isSome = true,
      .list true ((fillL ei.size (List.replicate n (ofV ei.zero)) (parts.toList.map fun p => (p.1, ρ p.2))).getD []), σ⟩ := by
  rintro ⟨hz, hzl, h0, hn, hc⟩ w0 G a w hi hr
  obtain ⟨r, hr'⟩ := Option.isSome_iff_exists.1 hc
  dsimp only at *
  rw [hr']
  have hall : ∀ x ∈ List.replicate n (ofV ei.zero), x.cells.length = ei.size := fun x hx => by rw [List.eq_of_mem_replicate hx, hzl]
  obtain ⟨g1, g2, g3⟩ := fillL_flat _ _ r hall hr'
  have hcr := (ofV_cells G ei.zero hz).zeros (by rw [hzl]; exact h0) n (ofV ei.zero) rfl
  rw [hzl] at hcr
  obtain ⟨vs', h1, h2⟩ := fill_rep (G := G) ρ a.eval parts.toList _ _ _ hcr (fun p hp => hr p.2 (by
    simp only [ho, Op.operands]
    rw [List.toList_toArray]
    exact List.mem_map.2 ⟨p, hp, rfl⟩)) g3
  have hrun : (execOp a.eval o).run C.P w = .ok (.value (.slice (some ⟨w.heap.size, 0, none⟩) n n)) (w.alloc (.cells vs' e)) := by
    have hn' : ¬ (n * ei.size > 2 ^ 24) := by omega
    by_cases hz0 : n * ei.size = 0
    · have : n = 0 := by rcases Nat.mul_eq_zero.1 hz0 with h | h <;> omega
      subst this
      have hnil : (Array.range (0 * ei.size)).map (fun i => ei.zero.cells[i % ei.zero.cells.size]!) = #[] := by simp
      rw [hnil] at h1
      have hr0 : Array.map (fun x => (default : Value)) (Array.range 0) = #[] := by simp
      simp [execOp, ho, Instr.buildSlice, C.run_und ht, hd, C.run_size he, hr0, h1, newRow, newObj, Sem.run]
    · simp only [execOp, ho, Sem.run_bind, Instr.buildSlice, C.run_und ht, hd, C.run_size he, Result.andThen_ok, hn', hz0, if_false, Sem.run_pure, C.run_zero he, Array.toList_map]
      rw [h1]
      simp [newRow, newObj, Sem.run]
  have hx : n = r.length := by rw [g2]; simp
  refine ⟨G.mark w.heap.size vs', _, _, _, hrun, .inl rfl, ?_, Inv.mark hi vs' e, Ext.mark hi vs' e⟩
  simp only [Option.getD_some]
  have hrep := rep_list (G := G.mark w.heap.size vs') (full := true) (xs := r) (b := w.heap.size) (o := 0) (cap := r.length) (es := ei.size) (vs := fun _ => none) (Nat.le_refl _) (fun _ => rfl) g1 (fun i x k c h1' h2' => by
    obtain ⟨u, hu, hru⟩ := h2.flat g1 i x k c h1' h2'
    refine ⟨u, ?_, hru.mono (Gh.le_mark hi vs')⟩
    simp only [Gh.mark, if_true, Nat.zero_add]
    exact hu)
  rw [← hx] at hrep
  exact hrep
end ops
end Go.Lg
/- Lg, part F: slices of slices, append, make; an owned row that becomes a list. -/
namespace Go.Lg
open Go.RowKit
def okI (ρ : Operand → AV) : Option Operand → Prop
  | none => True
  | some x => (ρ x).isInt = true ∧ 0 ≤ (ρ x).theI
def valI (ρ : Operand → AV) (d : Nat) : Option Operand → Nat
  | none => d
  | some x => (ρ x).theI.toNat
theorem run_bounds {P : Program} {G : Gh} {ρ : Operand → AV} {f : Operand → Value} {lo hi : Option Operand} (w : World) (b : Bool) (len cap : Nat) (hlo : ∀ x, lo = some x → Rep G (ρ x) (f x)) (hhi : ∀ x, hi = some x → Rep G (ρ x) (f x))
    (h1 : okI ρ lo) (h2 : okI ρ hi) (h3 : valI ρ 0 lo ≤ valI ρ len hi) (h4 : valI ρ len hi ≤ cap) :
    (Instr.sliceBounds b len cap (lo.map f) (hi.map f) none).run P w = .ok (valI ρ 0 lo, valI ρ len hi, cap) w := by
  cases lo with
  | none =>
    cases hi with
    | none => simp [Instr.sliceBounds, valI]
    | some y =>
      have e := (hhi y rfl).isInt h2.1
      have g1 := h2.2
      simp only [valI] at h3 h4 ⊢
      have g2 : (ρ y).theI ≤ (cap : Int) := by omega
      simp [Instr.sliceBounds, Instr.sliceBound, e, asIntOf, g1, g2]
  | some x =>
    have ex := (hlo x rfl).isInt h1.1
    have x1 := h1.2
    cases hi with
    | none =>
      simp only [valI] at h3 h4 ⊢
      have g2 : (ρ x).theI ≤ (len : Int) := by omega
      simp [Instr.sliceBounds, Instr.sliceBound, ex, asIntOf, x1, g2]
    | some y =>
      have e := (hhi y rfl).isInt h2.1
      have g1 := h2.2
      simp only [valI] at h3 h4 ⊢
      have g2 : (ρ y).theI ≤ (cap : Int) := by omega
      have g3 : (ρ x).theI ≤ (ρ y).theI := by omega
      have g4 : max (ρ y).theI 0 = (ρ y).theI := by omega
      simp [Instr.sliceBounds, Instr.sliceBound, ex, e, asIntOf, x1, g1, g2, g3, g4]
section ops
variable {C : Cx} {o : Oper} {ρ : Operand → AV} {σ : Sto}
theorem snd_slice_str {t : TypeId} {ti : TyI} {x : Operand} {lo hi : Option Operand} {s : ByteArray} (ht : C.ty t = some ti) (hd : ti.desc = .string) (ho : o.op = .slice t x lo hi none) (hx : ρ x = .str s) :
    Snd C o ρ σ ⟨okI ρ lo ∧ okI ρ hi ∧ valI ρ 0 lo ≤ valI ρ s.size hi ∧ valI ρ s.size hi ≤ s.size, .str (s.extract (valI ρ 0 lo) (valI ρ s.size hi)), σ⟩ :=
  snd_pure fun ⟨c1, c2, c3, c4⟩ w0 G a w hi' hr => by
    have hp := hr x (by simp [ho, Op.operands])
    rw [hx] at hp
    replace hp := hp.isStr
    have hb := run_bounds (P := C.P) (G := G) (ρ := ρ) (f := a.eval) (lo := lo) (hi := hi) w false s.size s.size (fun y hy => hr y (by simp [ho, Op.operands, hy])) (fun y hy => hr y (by simp [ho, Op.operands, hy])) c1 c2 c3 c4
    exact ⟨_, by simp [execOp, ho, Instr.sliceAt, Instr.slice, C.run_und ht, hd, hp, hb], .str _⟩
theorem snd_slice_list {t e : TypeId} {ti ei : TyI} {x : Operand} {lo hi : Option Operand} {full : Bool} {xs : List AV} (ht : C.ty t = some ti) (hd : ti.desc = .slice e) (he : C.ty e = some ei) (ho : o.op = .slice t x lo hi none) (hx : ρ x = .list full xs) :
    Snd C o ρ σ ⟨okI ρ lo ∧ okI ρ hi ∧ valI ρ 0 lo ≤ valI ρ xs.length hi ∧ valI ρ xs.length hi ≤ xs.length ∧ (∀ x ∈ xs, x.cells.length = ei.size),
      .list (full && hi.isNone) ((xs.take (valI ρ xs.length hi)).drop (valI ρ 0 lo)), σ⟩ :=
  snd_pure fun ⟨c1, c2, c3, c4, c5⟩ w0 G a w hi' hr => by
    have hp := hr x (by simp [ho, Op.operands])
    rw [hx] at hp
    cases hv : a.eval x with
    | slice ad len cap =>
      rw [hv] at hp
      have hlen : len = xs.length ∧ len ≤ cap := by
        cases hp with
        | list0 => exact ⟨rfl, Nat.zero_le _⟩
        | list _ _ _ _ _ _ _ _ h1 h2 _ _ _ _ => exact ⟨h1.symm, h2⟩
      obtain ⟨rfl, hcap⟩ := hlen
      have hb := run_bounds (P := C.P) (G := G) (ρ := ρ) (f := a.eval) (lo := lo) (hi := hi) w true xs.length cap (fun y hy => hr y (by simp [ho, Op.operands, hy])) (fun y hy => hr y (by simp [ho, Op.operands, hy])) c1 c2 c3 (by omega)
      refine ⟨.slice (if cap = valI ρ 0 lo then ad else ad.map fun x => x.add (valI ρ 0 lo * ei.size)) (valI ρ xs.length hi - valI ρ 0 lo) (cap - valI ρ 0 lo), by simp [execOp, ho, Instr.sliceAt, Instr.slice, C.run_und ht, hd, hv, hb, C.run_size he], ?_⟩
      generalize hL : valI ρ 0 lo = l at *
      generalize hH : valI ρ xs.length hi = h at *
      have hlen2 : ((xs.take h).drop l).length = h - l := by simp; omega
      by_cases hz : h - l = 0
      · have hnil : (xs.take h).drop l = [] := List.eq_nil_of_length_eq_zero (by omega)
        rw [hnil, hz]
        refine .list0 _ _ _ fun hf => ?_
        simp only [Bool.and_eq_true, Option.isNone_iff_eq_none] at hf
        obtain ⟨hf1, rfl⟩ := hf
        have hh : h = xs.length := by rw [← hH]; rfl
        cases hp with
        | list0 _ _ _ h => have := h hf1; simp at hh; omega
        | list _ _ _ _ _ _ _ _ _ _ g _ _ _ => have := g hf1; omega
      · cases hp with
        | list0 => simp at c4; omega
        | list _ _ b o' _ _ es vs h1 h2 hf hs hI hvv =>
          have hne : cap ≠ l := by omega
          have hes : es = ei.size := by
            have h0 : 0 < xs.length := by omega
            have := hs 0 _ (List.getElem?_eq_getElem h0)
            rw [← this]; exact c5 _ (List.getElem_mem h0)
          simp only [hne, if_false, Option.map_some, add_at]
          rw [← hlen2]
          refine rep_list (es := ei.size) (vs := fun _ => none) (by omega) ?_ (fun x hx => c5 x (List.mem_of_mem_take (List.mem_of_mem_drop hx))) ?_
          · intro hff
            simp only [Bool.and_eq_true, Option.isNone_iff_eq_none] at hff
            obtain ⟨hf1, rfl⟩ := hff
            have hh : h = xs.length := by rw [← hH]; rfl
            have := hf hf1
            omega
          · intro i z k c hz' hc
            rw [List.getElem?_drop, List.getElem?_take] at hz'
            split at hz'
            · rename_i hlt
              have hk : k < es := by rw [← hs _ _ hz']; exact (List.getElem?_eq_some_iff.1 hc).1
              have hi2 := (List.getElem?_eq_some_iff.1 hz').1
              refine ⟨vs (l + i) k, ?_, hvv _ _ _ _ hz' hc⟩
              rw [← hes, show o' + l * es + (i * es + k) = o' + ((l + i) * es + k) by rw [Nat.add_mul]; omega]
              exact hI _ _ hi2 hk
            · cases hz'
    | _ => rw [hv] at hp; cases hp
theorem snd_slice_row {t e : TypeId} {ti ei : TyI} {x : Operand} {lo hi : Option Operand} {id off len es : Nat} {xs : List AV} {fz : Bool} (ht : C.ty t = some ti) (hd : ti.desc = .slice e) (he : C.ty e = some ei) (ho : o.op = .slice t x lo hi none)
    (hx : ρ x = .row id off len) (hs : σ.get id = some (.row es xs fz)) :
    Snd C o ρ σ ⟨okI ρ lo ∧ okI ρ hi ∧ valI ρ 0 lo ≤ valI ρ len hi ∧ valI ρ len hi ≤ len ∧ es = ei.size, .row id (off + valI ρ 0 lo) (valI ρ len hi - valI ρ 0 lo), σ⟩ :=
  snd_pure fun ⟨c1, c2, c3, c4, c5⟩ w0 G a w hi' hr => by
    have hp := hr x (by simp [ho, Op.operands])
    rw [hx] at hp
    cases hv : a.eval x with
    | slice ad len' cap =>
      rw [hv] at hp
      cases hp with
      | row _ _ _ _ o' B hj hc h =>
        obtain ⟨_, vs, ty, g1, g2, g3, _⟩ := hi'.obj id _ B hs hj
        have hb := run_bounds (P := C.P) (G := G) (ρ := ρ) (f := a.eval) (lo := lo) (hi := hi) w true len cap (fun y hy => hr y (by simp [ho, Op.operands, hy])) (fun y hy => hr y (by simp [ho, Op.operands, hy])) c1 c2 c3 (by omega)
        refine ⟨.slice (if cap = valI ρ 0 lo then some ⟨B.b, o', none⟩ else some ((⟨B.b, o', none⟩ : Addr).add (valI ρ 0 lo * ei.size))) (valI ρ len hi - valI ρ 0 lo) (cap - valI ρ 0 lo), by simp [execOp, ho, Instr.sliceAt, Instr.slice, C.run_und ht, hd, hv, hb, C.run_size he], ?_⟩
        generalize valI ρ 0 lo = l at *
        generalize valI ρ len hi = h' at *
        by_cases e : cap = l
        · have z1 : h' - l = 0 := by omega
          have z2 : cap - l = 0 := by omega
          simp only [e, if_true]
          rw [show l - l = 0 by omega, z1]
          exact .row _ _ _ _ _ B hj (Nat.le_refl _) (.inr ⟨rfl, rfl⟩)
        · simp only [e, if_false, add_at]
          refine .row _ _ _ _ _ B hj (by omega) (.inl ?_)
          rcases h with ⟨h1, h2⟩ | ⟨h1, h2⟩
          · rw [← c5, ← g3, h1, Nat.add_mul]
            refine ⟨by omega, ?_⟩
            rw [← h2, h1, Nat.sub_mul]
            have : l * B.es ≤ cap * B.es := Nat.mul_le_mul_right _ (by omega)
            omega
          · omega
    | _ => rw [hv] at hp; cases hp
structure Src (C : Cx) (G : Gh) (w : World) (t2 : TypeId) (es : Nat) (X : Value) (ys : List AV) : Prop where
  ty : ∃ i, C.ty t2 = some i ∧ ∀ k, i.desc ≠ .int k
  len : (Builtin.lenOf X).run C.P w = .ok ys.length w
  cells : ∀ w', w'.heap = w.heap → ∃ news : List Value, (Builtin.firstCells es ys.length X).run C.P w' = .ok news.toArray w' ∧ CR G (flat ys) news.toArray ∧ (∀ v ∈ news, v.oneCell' = true)
  el : ∀ y ∈ ys, y.cells.length = es
theorem run_firstCells {P : Program} {w : World} (size n : Nat) (xa : Option Addr) (c : Nat) (news : List Value) (hl : news.length = n * size) (h : ∀ j v, news[j]? = some v → ∃ a, xa = some a ∧ w.cell? (a.add j) = some v) :
    (Builtin.firstCells size n (.slice xa n c)).run P w = .ok news.toArray w := by
  cases xa with
  | none =>
    have : news = [] := by
      cases news with
      | nil => rfl
      | cons v vs => obtain ⟨a, ha, _⟩ := h 0 v (by simp); cases ha
    subst this
    simp [Builtin.firstCells]
  | some a =>
    simp only [Builtin.firstCells]
    rw [← hl]
    exact run_loadCells_list w a news fun j v hj => by
      obtain ⟨a', ha, hc⟩ := h j v hj
      cases ha; exact hc
theorem list_cells {G : Gh} {f : Bool} {xs : List AV} {ad : Option Addr} {len cap es : Nat} (h : Rep G (.list f xs) (.slice ad len cap)) (hel : ∀ x ∈ xs, x.cells.length = es) (hone : ∀ x ∈ xs, x.cells.all AV.one = true) :
    ∃ news : List Value, CR G (flat xs) news.toArray ∧ (∀ v ∈ news, v.oneCell' = true) ∧ ∀ j v, news[j]? = some v → ∃ b o, ad = some ⟨b, o, none⟩ ∧ G.I b (o + j) = some v := by
  cases h with
  | list0 => exact ⟨[], ⟨rfl, fun i c h => by simp [flat] at h⟩, fun v hv => by simp at hv, fun j v hj => by simp at hj⟩
  | list _ _ b o _ _ es' vs hl hc hf hs hI hv =>
    obtain ⟨f1, f2⟩ := flat_get hel
    by_cases h0 : xs = []
    · subst h0; exact ⟨[], ⟨rfl, fun i c h => by simp [flat] at h⟩, fun v hv => by simp at hv, fun j v hj => by simp at hj⟩
    have hes : es' = es := by
      have hp : 0 < xs.length := List.length_pos_iff.2 h0
      rw [← hs 0 _ (List.getElem?_eq_getElem hp)]
      exact hel _ (List.getElem_mem hp)
    subst hes
    have key : ∀ j, j < xs.length * es' → 0 < es' ∧ j / es' < xs.length ∧ j % es' < es' ∧ j / es' * es' + j % es' = j := by
      intro j hj
      have hpos : 0 < es' := by
        rcases Nat.eq_zero_or_pos es' with h | h
        · subst h; simp at hj
        · exact h
      refine ⟨hpos, Nat.div_lt_of_lt_mul (by rw [Nat.mul_comm]; exact hj), Nat.mod_lt _ hpos, by rw [Nat.mul_comm]; exact Nat.div_add_mod _ _⟩
    refine ⟨(List.range (xs.length * es')).map fun j => vs (j / es') (j % es'), ⟨by simp [f1], fun j c hj => ?_⟩, fun v hvm => ?_, fun j v hj => ⟨b, o, rfl, ?_⟩⟩
    · have hlt : j < xs.length * es' := by rw [← f1]; exact (List.getElem?_eq_some_iff.1 hj).1
      obtain ⟨k0, k1, k2, k3⟩ := key j hlt
      have hx := List.getElem?_eq_getElem k1
      have hk2 : j % es' < (xs[j / es']).cells.length := by rw [hel _ (List.getElem_mem k1)]; exact k2
      have hcc := f2 _ _ _ _ hx (List.getElem?_eq_getElem hk2)
      rw [k3, hj] at hcc
      cases hcc
      refine ⟨vs (j / es') (j % es'), by simp [hlt], hv _ _ _ _ hx (List.getElem?_eq_getElem hk2)⟩
    · obtain ⟨j, hj, rfl⟩ := List.mem_map.1 hvm
      obtain ⟨k0, k1, k2, k3⟩ := key j (List.mem_range.1 hj)
      have hk2 : j % es' < (xs[j / es']).cells.length := by rw [hel _ (List.getElem_mem k1)]; exact k2
      exact (hv _ _ _ _ (List.getElem?_eq_getElem k1) (List.getElem?_eq_getElem hk2)).one (List.all_eq_true.1 (hone _ (List.getElem_mem k1)) _ (List.getElem_mem hk2))
    · have hlt : j < xs.length * es' := by simpa using (List.getElem?_eq_some_iff.1 hj).1
      obtain ⟨k0, k1, k2, k3⟩ := key j hlt
      simp only [List.getElem?_map, List.getElem?_range hlt, Option.map_some, Option.some.injEq] at hj
      subst hj
      have := hI (j / es') (j % es') (by omega) k2
      rwa [k3] at this
theorem src_list {w0 w : World} {G : Gh} {t2 : TypeId} {i2 : TyI} {e2 : TypeId} {es : Nat} {f : Bool} {ys : List AV} {X : Value} (hi : Inv C.gl w0 G σ w) (ht2 : C.ty t2 = some i2) (hd2 : i2.desc = .slice e2)
    (h : Rep G (.list f ys) X) (hel : ∀ x ∈ ys, x.cells.length = es) (hone : ∀ x ∈ ys, x.cells.all AV.one = true) : Src C G w t2 es X ys := by
  cases hv : X with
  | slice ad len cap =>
    rw [hv] at h
    have hl : len = ys.length := by cases h <;> first | rfl | (symm; assumption)
    subst hl
    obtain ⟨news, n1, n2, n3⟩ := list_cells h hel hone
    refine ⟨⟨i2, ht2, by rw [hd2]; intro k hk; cases hk⟩, by simp [Builtin.lenOf], fun w' hw' => ⟨news, ?_, n1, n2⟩, hel⟩
    refine run_firstCells es _ ad cap news (by rw [← (flat_get hel).1, ← n1.1]; simp) fun j v hj => ?_
    obtain ⟨b, o, rfl, hI⟩ := n3 j v hj
    refine ⟨_, rfl, ?_⟩
    rw [add_at]
    exact (World.cell?_of_block (w := w) (a := ⟨b, o + j, none⟩) (by rw [hw'])).trans (hi.imm _ _ _ hI)
  | _ => rw [hv] at h; cases h
theorem row_cells {w0 w : World} {G : Gh} {id off len es : Nat} {xs : List AV} {fz : Bool} {ad : Option Addr} {cap : Nat} (hi : Inv C.gl w0 G σ w) (hs : σ.get id = some (.row es xs fz)) (h : Rep G (.row id off len) (.slice ad len cap))
    (hfit : off + len ≤ xs.length) (hone : ∀ x ∈ xs, x.cells.all AV.one = true) :
    ∃ news : List Value, CR G (flat ((xs.drop off).take len)) news.toArray ∧ (∀ v ∈ news, v.oneCell' = true) ∧ (∀ x ∈ (xs.drop off).take len, x.cells.length = es) ∧ ∀ j v, news[j]? = some v → ∃ a, ad = some a ∧ w.cell? (a.add j) = some v := by
  cases h with
  | row _ _ _ _ o' B hj hc h =>
    obtain ⟨_, vs, ty, g1, g2, g3, g4, g5, g6, g7⟩ := hi.obj id _ B hs hj
    have hel : ∀ x ∈ (xs.drop off).take len, x.cells.length = es := fun x hx => by
      obtain ⟨k, hk⟩ := List.getElem?_of_mem (List.mem_of_mem_drop (List.mem_of_mem_take hx))
      exact g5 k x hk
    obtain ⟨f1, f2⟩ := flat_get hel
    have hlen : ((xs.drop off).take len).length = len := by simp; omega
    rw [hlen] at f1
    have key : ∀ j, j < len * es → ∃ v c, vs[o' + j]? = some v ∧ (flat ((xs.drop off).take len))[j]? = some c ∧ Rep G c v ∧ v.oneCell' = true := by
      intro j hj'
      have hpos : 0 < es := by
        rcases Nat.eq_zero_or_pos es with h | h
        · subst h; simp at hj'
        · exact h
      have k1 : j / es < len := Nat.div_lt_of_lt_mul (by rw [Nat.mul_comm]; exact hj')
      have k2 := Nat.mod_lt j hpos
      have k3 : j / es * es + j % es = j := by rw [Nat.mul_comm]; exact Nat.div_add_mod _ _
      have hx := List.getElem?_eq_getElem (l := xs) (i := off + j / es) (by omega)
      have hk2 : j % es < (xs[off + j / es]).cells.length := by rw [g5 _ _ hx]; exact k2
      have hc' := List.getElem?_eq_getElem hk2
      obtain ⟨v, hv, hr⟩ := g6 _ _ _ _ hx hc'
      have hx2 : ((xs.drop off).take len)[j / es]? = some (xs[off + j / es]) := by rw [List.getElem?_take, if_pos k1, List.getElem?_drop]; exact hx
      have := f2 _ _ _ _ hx2 hc'
      rw [k3] at this
      refine ⟨v, _, ?_, this, hr, hr.one (List.all_eq_true.1 (hone _ (List.getElem_mem (by omega))) _ (List.getElem_mem hk2))⟩
      rcases h with ⟨h1, _⟩ | ⟨h1, _⟩
      · rw [← hv, h1, g3]; congr 1; rw [Nat.add_mul]; omega
      · subst h1; simp at hj'
    refine ⟨(List.range (len * es)).map fun j => (vs[o' + j]?).getD undef, ⟨by simp [f1], fun j c hj' => ?_⟩, fun v hvm => ?_, hel, fun j v hj' => ⟨_, rfl, ?_⟩⟩
    · have hlt : j < len * es := by rw [← f1]; exact (List.getElem?_eq_some_iff.1 hj').1
      obtain ⟨v, c', h1, h2, h3, _⟩ := key j hlt
      rw [hj'] at h2; cases h2
      exact ⟨v, by simp [hlt, h1], h3⟩
    · obtain ⟨j, hj', rfl⟩ := List.mem_map.1 hvm
      obtain ⟨v, c', h1, h2, h3, h4⟩ := key j (List.mem_range.1 hj')
      rw [h1]; exact h4
    · have hlt : j < len * es := by simpa using (List.getElem?_eq_some_iff.1 hj').1
      obtain ⟨v', c', h1, h2, h3, h4⟩ := key j hlt
      simp only [List.getElem?_map, List.getElem?_range hlt, Option.map_some, Option.some.injEq, h1, Option.getD_some] at hj'
      subst hj'
      rw [add_at, cell_at g1, h1]
theorem src_row {w0 w : World} {G : Gh} {t2 : TypeId} {i2 : TyI} {e2 : TypeId} {id off len es : Nat} {xs : List AV} {fz : Bool} {X : Value} (hi : Inv C.gl w0 G σ w) (ht2 : C.ty t2 = some i2) (hd2 : i2.desc = .slice e2)
    (hs : σ.get id = some (.row es xs fz)) (h : Rep G (.row id off len) X) (hfit : off + len ≤ xs.length) (hone : ∀ x ∈ xs, x.cells.all AV.one = true) : Src C G w t2 es X ((xs.drop off).take len) := by
  cases hv : X with
  | slice ad len' cap =>
    rw [hv] at h
    have hl : len' = len := by cases h; rfl
    subst hl
    obtain ⟨news, n1, n2, n3, n4⟩ := row_cells hi hs h hfit hone
    have hlen : ((xs.drop off).take len').length = len' := by simp; omega
    refine ⟨⟨i2, ht2, by rw [hd2]; intro k hk; cases hk⟩, by rw [hlen]; simp [Builtin.lenOf], fun w' hw' => ⟨news, ?_, n1, n2⟩, n3⟩
    rw [hlen]
    refine run_firstCells es _ ad cap news (by have := n1.1; rw [(flat_get n3).1, hlen] at this; simpa using this) fun j v hj => ?_
    obtain ⟨a, ha, hc⟩ := n4 j v hj
    exact ⟨a, ha, (World.cell?_of_block (w := w) (a := a.add j) (by rw [hw'])).trans hc⟩
  | _ => rw [hv] at h; cases h
def bytesAV (s : ByteArray) : List AV := s.data.toList.map fun b => .int .u8 (b.toNat : Int)
theorem flat_ones {xs : List AV} (h : ∀ x ∈ xs, x.cells = [x]) : flat xs = xs := by
  induction xs with
  | nil => rfl
  | cons x xs ih =>
    simp only [flat, List.flatMap_cons] at ih ⊢
    rw [h x (by simp), ih fun y hy => h y (by simp [hy])]; rfl
theorem src_str {w : World} {G : Gh} {t2 : TypeId} {i2 : TyI} {s : ByteArray} {X : Value} (ht2 : C.ty t2 = some i2) (hd2 : i2.desc = .string) (h : Rep G (.str s) X) : Src C G w t2 1 X (bytesAV s) := by
  rw [h.isStr]
  have hlen : (bytesAV s).length = s.size := by simp [bytesAV]
  have hfl : flat (bytesAV s) = bytesAV s := flat_ones fun x hx => by
    obtain ⟨b, _, rfl⟩ := List.mem_map.1 hx; rfl
  refine ⟨⟨i2, ht2, by rw [hd2]; intro k hk; cases hk⟩, by rw [hlen]; simp [Builtin.lenOf], fun w' hw' => ⟨s.data.toList.map fun b => .int .u8 (b.toNat : Int), ?_, ⟨by rw [hfl, hlen]; simp, fun i c hc => ?_⟩, fun v hv => ?_⟩, fun y hy => ?_⟩
  · rw [hlen]
    simp only [Builtin.firstCells, Sem.run_pure]
    have : s.extract 0 s.size = s := by
      simp
    rw [this]
    congr 1
    apply Array.ext'
    simp
  · rw [hfl] at hc
    simp only [bytesAV, List.getElem?_map] at hc ⊢
    cases hb : s.data.toList[i]? with
    | none => simp [hb] at hc
    | some b =>
      simp only [hb, Option.map_some, Option.some.injEq] at hc
      subst hc
      have hb2 : s.data[i]? = some b := by rw [← Array.getElem?_toList]; exact hb
      exact ⟨.int .u8 b.toNat, by simp [hb2], .int _ _⟩
  · obtain ⟨b, _, rfl⟩ := List.mem_map.1 hv; rfl
  · obtain ⟨b, _, rfl⟩ := List.mem_map.1 hy; rfl
theorem run_append_new {t t2 e ty : TypeId} {ti ei : TyI} {w : World} {G : Gh} {X : Value} {ys : List AV} (ht : C.ty t = some ti) (hd : ti.desc = .slice e) (he : C.ty e = some ei) (hX : Src C G w t2 ei.size X ys)
    (base : Option Addr) (sLen sCap : Nat) (olds : List Value) (hol : olds.length = sLen * ei.size) (holds : ∀ w', w'.heap = w.heap → (Builtin.firstCells ei.size sLen (.slice base sLen sCap)).run C.P w' = .ok olds.toArray w')
    (hg : sCap < sLen + ys.length) (h63 : sLen + ys.length ≤ 9223372036854775807) (hb : (sLen + ys.length) * ei.bytes ≤ 140737488355328) :
    ∃ (cap : Nat) (news : List Value) (zs : Array Value), sLen + ys.length ≤ cap ∧ CR G (flat ys) news.toArray ∧ zs.size = (cap - (sLen + ys.length)) * ei.zero.cells.size ∧
      (Builtin.append_ #[t, t2] ty #[.slice base sLen sCap, X]).run C.P w = .ok (.slice (some ⟨w.heap.size, 0, none⟩) (sLen + ys.length) cap) (w.drew.alloc (.cells (olds.toArray ++ news.toArray ++ zs) e)) := by
  obtain ⟨i2, hi2, hni⟩ := hX.ty
  obtain ⟨news, n1, n2, n3⟩ := hX.cells w.drew rfl
  obtain ⟨hu, r, r1, r2, r3, r4⟩ := C.ok e ei he
  have hn : ¬ (sLen + ys.length ≤ sCap) := by omega
  have h63' : ¬ (((sLen + ys.length : Nat) : Int) > IntKind.i64.max) := by
    have : IntKind.i64.max = 9223372036854775807 := by decide
    rw [this]; omega
  have h48 : ¬ (Builtin.nextslicecap (sLen + ys.length) sCap * ei.bytes > 2 ^ 48) := by
    have h2 : Builtin.nextslicecap (sLen + ys.length) sCap ≤ 2 * (sLen + ys.length) := by
      unfold Builtin.nextslicecap
      split
      · omega
      · split
        · omega
        · have key : ∀ (r c : Nat), c ≤ 2 * (sLen + ys.length) → 256 ≤ c → Builtin.growBy (sLen + ys.length) r c ≤ 2 * (sLen + ys.length) := by
            intro r
            induction r with
            | zero => intro c hc _; simpa [Builtin.growBy] using hc
            | succ r ih =>
              intro c hc h2
              simp only [Builtin.growBy]
              split
              · exact hc
              · exact ih _ (by omega) (by omega)
          exact key 4 sCap (by omega) (by omega)
    have : Builtin.nextslicecap (sLen + ys.length) sCap * ei.bytes ≤ 2 * (sLen + ys.length) * ei.bytes := Nat.mul_le_mul_right _ h2
    rw [Nat.mul_assoc] at this
    omega
  refine ⟨grownCap w (sLen + ys.length) sCap e, news, Builtin.zeroCells ei.zero.cells (grownCap w (sLen + ys.length) sCap e - (sLen + ys.length)), grownCap_ge _ _ _ _, n2, size_zeroCells _ _, ?_⟩
  have hcut : (choose (.appendCap (sLen + ys.length) sCap e)).run C.P w = .ok (grownCap w (sLen + ys.length) sCap e) w.drew := by
    simp [Question.forced, grownCap]
  have hbytes : ∀ w, (typeInfo e).run C.P w = .ok r w := fun w => by simp [typeInfo, r1]
  have hask : ∀ (n : Nat) (w : World), (askRoom n).run C.P w = .ok () w := fun n w => by
    unfold askRoom
    split <;> simp [mark, Sem.run]
  rw [← r3] at h48
  simp only [Builtin.append_, List.getElem?_toArray, List.getElem?_cons_zero, List.getElem?_cons_succ, Sem.run_bind, C.run_und ht, Result.andThen_ok, hd, C.run_size he, C.run_und hi2]
  have hz : (match i2.desc with | .int _ => true | _ => false) = false := by
    cases hd2 : i2.desc with
    | int k => exact absurd hd2 (hni k)
    | _ => rfl
  simp only [Sem.run_bind, C.run_und hi2, Result.andThen_ok, Sem.run_pure, hz, Bool.false_eq_true, if_false, hX.len, hn, h63', false_and, hbytes, h48, Bool.not_false, if_true, hcut, hask, holds w.drew rfl, n1, C.run_zero he]
  simp [newRow, newObj, Sem.run]
  rfl
theorem flat_append (xs ys : List AV) : flat (xs ++ ys) = flat xs ++ flat ys := by simp [flat]
theorem CR.append {G : Gh} {xs ys : List AV} {vs ws : Array Value} (h : CR G xs vs) (k : CR G ys ws) : CR G (xs ++ ys) (vs ++ ws) := by
  refine ⟨by simp [h.1, k.1], fun i c hc => ?_⟩
  rw [List.getElem?_append] at hc
  rw [Array.getElem?_append, h.1]
  split at hc
  · rename_i hlt; rw [if_pos hlt]; exact h.2 i c hc
  · rename_i hlt; rw [if_neg hlt]; exact k.2 _ c hc
theorem new_row {gl : Nat → List AV} {w0 w : World} {G : Gh} {σ : Sto} (h : Inv gl w0 G σ w) {xs : List AV} {es : Nat} {vs : Array Value} (hel : ∀ x ∈ xs, x.cells.length = es) (hcr : CR G (flat xs) vs) (zs : Array Value) (e : TypeId) (cap : Nat)
    (hz : (vs ++ zs).size = cap * es) (hc : xs.length ≤ cap) :
    ∃ G', Rep G' (.row σ.next 0 xs.length) (.slice (some ⟨w.heap.size, 0, none⟩) xs.length cap) ∧ Inv gl w0 G' (σ.add (.row es xs false)) (w.alloc (.cells (vs ++ zs) e)) ∧ Ext G σ w G' (σ.add (.row es xs false)) (w.alloc (.cells (vs ++ zs) e)) := by
  have hle := Gh.le_new (G := G) (id := σ.next) ⟨w.heap.size, 0, cap * es, es⟩ (h.fresh _ (Nat.le_refl _))
  refine ⟨G.new σ.next ⟨w.heap.size, 0, cap * es, es⟩, .row _ _ _ _ _ ⟨w.heap.size, 0, cap * es, es⟩ (by simp [Gh.new]) hc (.inl ⟨by simp, by simp⟩), ?_, Ext.new h (σ.next + 1) _ _ _ (by omega) rfl⟩
  refine Inv.new h σ.next (σ.next + 1) (.row es xs false) _ _ (by omega) (by omega) (h.fresh _ (Nat.le_refl _)) rfl ?_
  refine ⟨vs ++ zs, e, heap_alloc_new w _, hz, rfl, by simp only [Nat.zero_add]; exact Nat.mul_le_mul_right _ hc, fun i x hx => hel x (mem_of_get hx), fun i x k c hx hc' => ?_, fun k _ => ?_⟩
  · obtain ⟨u, hu, hr⟩ := hcr.flat hel i x k c hx hc'
    refine ⟨u, ?_, hr.mono hle⟩
    show (vs ++ zs)[0 + i * es + k]? = some u
    rw [Nat.zero_add, Array.getElem?_append, if_pos (Array.getElem?_eq_some_iff.1 hu).1]
    exact hu
  · show G.I w.heap.size k = _
    simp only [Bool.false_eq_true, false_and, if_false]
    cases hI : G.I w.heap.size k with
    | none => rfl
    | some v => have := h.imm_lt hI; omega
theorem snd_append_full {t t2 e : TypeId} {ti ei : TyI} {s x : Operand} {xs ys : List AV} (ht : C.ty t = some ti) (hd : ti.desc = .slice e) (he : C.ty e = some ei) (ho : o.op = .call { callee := .builtin .append, args := #[s, x], argTypes := #[t, t2] })
    (hs : ρ s = .list true xs) (hsrc : ∀ w0 G a w, Inv C.gl w0 G σ w → Rep G (ρ x) (Act.eval a x) → Src C G w t2 ei.size (a.eval x) ys) :
    Snd C o ρ σ ⟨ys ≠ [] ∧ (∀ x ∈ xs, x.cells.length = ei.size) ∧ (∀ x ∈ xs, x.cells.all AV.one = true) ∧ ei.zero.cells.size = ei.size ∧ (xs.length + ys.length) * ei.bytes ≤ 140737488355328 ∧ xs.length + ys.length ≤ 9223372036854775807,
      .row σ.next 0 (xs.length + ys.length), σ.add (.row ei.size (xs ++ ys) false)⟩ := by
  rintro ⟨hy, hel, hone, hz, hb, h63⟩ w0 G a w hi hr
  have hp := hr s (by simp [ho, Op.operands, Call.operands])
  have hX := hsrc w0 G a w hi (hr x (by simp [ho, Op.operands, Call.operands]))
  rw [hs] at hp
  cases hv : a.eval s with
  | slice ad len cap =>
    rw [hv] at hp
    have hl : len = xs.length ∧ cap = len := by
      cases hp with
      | list0 _ _ _ h => exact ⟨rfl, h rfl⟩
      | list _ _ _ _ _ _ _ _ h1 _ h2 _ _ _ => exact ⟨h1.symm, h2 rfl⟩
    obtain ⟨rfl, rfl⟩ := hl
    obtain ⟨olds, o1, o2, o3⟩ := list_cells hp hel hone
    have hpos : 0 < ys.length := List.length_pos_iff.2 hy
    have hol : olds.length = xs.length * ei.size := by have := o1.1; rw [(flat_get hel).1] at this; simpa using this
    obtain ⟨cap', news, zs, g1, g2, g3, g4⟩ := run_append_new (ty := o.type) ht hd he hX ad xs.length xs.length olds hol (fun w' hw' => run_firstCells ei.size _ ad _ olds hol fun j v hj => by
      obtain ⟨b, o', rfl, hI⟩ := o3 j v hj
      refine ⟨_, rfl, ?_⟩
      rw [add_at]
      exact (World.cell?_of_block (w := w) (a := ⟨b, o' + j, none⟩) (by rw [hw'])).trans (hi.imm _ _ _ hI)) (by omega) h63 hb
    have hi2 : Inv C.gl w0 G σ w.drew := hi.heap rfl rfl rfl rfl
    have helall : ∀ z ∈ xs ++ ys, z.cells.length = ei.size := fun z hz' => by
      rcases List.mem_append.1 hz' with h | h
      · exact hel z h
      · exact hX.el z h
    have hcr : CR G (flat (xs ++ ys)) (olds.toArray ++ news.toArray) := by rw [flat_append]; exact o1.append g2
    have hsz : (olds.toArray ++ news.toArray ++ zs).size = cap' * ei.size := by
      have h1 := hcr.1
      rw [(flat_get helall).1] at h1
      rw [Array.size_append, h1, g3, hz, ← Nat.add_mul]; congr 1; simp; omega
    obtain ⟨G', r1, r2, r3⟩ := new_row hi2 helall hcr zs e cap' hsz (by simp; omega)
    simp only [List.length_append] at r1
    exact ⟨G', _, _, _, by simp only [execOp, ho, resolve, invoke, builtin, Sem.run_bind, Sem.run_pure, Result.andThen_ok]; simp only [List.map_toArray, List.map_cons, List.map_nil, hv]; rw [g4]; rfl, .inl rfl, r1, r2, (Ext.heap (w := w) (w' := w.drew) G σ rfl).trans r3⟩
  | _ => rw [hv] at hp; cases hp
end ops
end Go.Lg
/- Lg, part G: append to an owned row, make, bytes as a string, and an owned row that becomes a list for good. -/
namespace Go.Lg
open Go.RowKit
theorem row_rename {gl : Nat → List AV} {w0 w : World} {G : Gh} {σ : Sto} (h : Inv gl w0 G σ w) {id off es : Nat} {xs : List AV} {B : Blk} (hs : σ.get id = some (.row es xs false)) (hj : G.j id = some B) (hoff : off ≤ xs.length) :
    Inv gl w0 (G.new σ.next ⟨B.b, B.o0 + off * es, B.sz, es⟩) ((σ.del id).add (.row es (xs.drop off) false)) w ∧
    Ext G σ w (G.new σ.next ⟨B.b, B.o0 + off * es, B.sz, es⟩) ((σ.del id).add (.row es (xs.drop off) false)) w := by
  have hle := Gh.le_new (G := G) (id := σ.next) ⟨B.b, B.o0 + off * es, B.sz, es⟩ (h.fresh _ (Nat.le_refl _))
  obtain ⟨hb, vs, ty, g1, g2, g3, g4, g5, g6, g7⟩ := h.obj id _ B hs hj
  have hid := h.live id _ hs
  have hmul : off * es + (xs.length - off) * es = xs.length * es := by rw [← Nat.add_mul]; congr 1; omega
  have get : ∀ i o, ((σ.del id).add (.row es (xs.drop off) false)).get i = some o → (i = σ.next ∧ o = .row es (xs.drop off) false) ∨ (i ≠ σ.next ∧ i ≠ id ∧ σ.get i = some o) := by
    intro i o hi
    have hi' : (if i = σ.next then some (AObj.row es (xs.drop off) false) else if i = id then none else σ.get i) = some o := hi
    by_cases e : i = σ.next
    · rw [if_pos e] at hi'; cases hi'; exact .inl ⟨e, rfl⟩
    · rw [if_neg e] at hi'
      by_cases e2 : i = id
      · rw [if_pos e2] at hi'; cases hi'
      · rw [if_neg e2] at hi'; exact .inr ⟨e, e2, hi'⟩
  constructor
  · exact {
      below := h.below
      imm := h.imm
      gl := fun g k c hc => (h.gl g k c hc).imp fun v hv => ⟨hv.1, hv.2.mono hle⟩
      live := fun i o hi => by
        show i < σ.next + 1
        rcases get i o hi with ⟨rfl, _⟩ | ⟨_, _, hi'⟩
        · omega
        · have := h.live i o hi'; omega
      obj := fun i o B' hi hj' => by
        simp only [Gh.new] at hj'
        rcases get i o hi with ⟨rfl, rfl⟩ | ⟨e1, e2, hi'⟩
        · rw [if_pos rfl] at hj'; cases hj'
          refine ⟨hb, vs, ty, g1, g2, rfl, ?_, fun i x hx => ?_, fun i x k c hx hc => ?_, fun k hk => ?_⟩
          · simp only [List.length_drop]; omega
          · rw [List.getElem?_drop] at hx; exact g5 _ x hx
          · rw [List.getElem?_drop] at hx
            obtain ⟨v, hv, hr⟩ := g6 _ x k c hx hc
            refine ⟨v, ?_, hr.mono hle⟩
            rw [← hv]; congr 1; simp only; rw [Nat.add_mul]; omega
          · simp only at hk ⊢
            simp only [Bool.false_eq_true, false_and, if_false]
            have := g7 k (by omega)
            simp only [Bool.false_eq_true, false_and, if_false] at this
            exact this
        · rw [if_neg e1] at hj'
          exact ⟨(h.obj i o B' hi' hj').1, (h.obj i o B' hi' hj').2.keep hle rfl fun _ => rfl⟩
      fresh := fun i hi => by
        simp only [Gh.new]
        have : σ.next + 1 ≤ i := hi
        rw [if_neg (by omega)]; exact h.fresh i (by omega)
      inj := fun i i' o o' B1 B2 h1 h2 h3 h4 hbb => by
        simp only [Gh.new] at h3 h4
        rcases get i o h1 with ⟨rfl, _⟩ | ⟨e1, e2, hi1⟩ <;> rcases get i' o' h2 with ⟨rfl, _⟩ | ⟨e1', e2', hi2⟩
        · rfl
        · rw [if_pos rfl] at h3; cases h3
          rw [if_neg e1'] at h4
          exact absurd (h.inj i' id _ _ B2 B hi2 hs h4 hj hbb.symm) e2'
        · rw [if_pos rfl] at h4; cases h4
          rw [if_neg e1] at h3
          exact absurd (h.inj i id _ _ B1 B hi1 hs h3 hj hbb) e2
        · rw [if_neg e1] at h3
          rw [if_neg e1'] at h4
          exact h.inj i i' o o' B1 B2 hi1 hi2 h3 h4 hbb
      has := fun i o hi hn => by
        simp only [Gh.new]
        rcases get i o hi with ⟨rfl, rfl⟩ | ⟨e1, e2, hi'⟩
        · rw [if_pos rfl]; exact ⟨_, rfl⟩
        · rw [if_neg e1]; exact h.has i o hi' hn
      freshT := fun i hi => h.freshT i (by have : σ.next + 1 ≤ i := hi; omega)
      tok := h.tok.step rfl (fun i es' n hi => by
          rcases get i _ hi with ⟨rfl, e⟩ | ⟨e1, e2, hi'⟩
          · cases e
          · exact hi') (fun _ _ _ => ⟨rfl, fun _ => rfl⟩) (fun i b hbt i' o' B1 h1 h2 => by
          simp only [Gh.new] at h2
          rcases get i' o' h1 with ⟨rfl, rfl⟩ | ⟨e1, e2, hi'⟩
          · rw [if_pos rfl] at h2; cases h2; exact h.tok.oj i b hbt id _ B hs hj
          · rw [if_neg e1] at h2; exact h.tok.oj i b hbt i' o' B1 hi' h2) }
  · exact {
      le := hle
      size := Nat.le_refl _
      keep := fun b hb' hn => ⟨rfl, fun _ => rfl, by
        rintro (⟨i, o, B', hi, hj', rfl⟩ | ⟨i, es', n, T, k, hi, hT, h3⟩)
        · simp only [Gh.new] at hj'
          rcases get i o hi with ⟨rfl, rfl⟩ | ⟨e1, e2, hi'⟩
          · rw [if_pos rfl] at hj'; cases hj'; exact hn (.inl ⟨id, _, B, hs, hj, rfl⟩)
          · rw [if_neg e1] at hj'; exact hn (.inl ⟨i, o, B', hi', hj', rfl⟩)
        · rcases get i _ hi with ⟨rfl, e⟩ | ⟨e1, e2, hi'⟩
          · cases e
          · exact hn (.inr ⟨i, es', n, T, k, hi', hT, h3⟩)⟩
      next := Nat.le_succ _ }
theorem Ext.del {G : Gh} {σ : Sto} {w : World} (id : Nat) : Ext G σ w G (σ.del id) w where
  le := .refl G
  size := Nat.le_refl _
  keep := fun b hb hn => ⟨rfl, fun _ => rfl, by
    rintro (⟨i, o, B, h1, h2, h3⟩ | ⟨i, es, n, T, k, h1, h2⟩)
    · simp only [Sto.del] at h1
      split at h1
      · cases h1
      · exact hn (.inl ⟨i, o, B, h1, h2, h3⟩)
    · simp only [Sto.del] at h1
      split at h1
      · cases h1
      · exact hn (.inr ⟨i, es, n, T, k, h1, h2⟩)⟩
  next := Nat.le_refl _
section ops
variable {C : Cx} {o : Oper} {ρ : Operand → AV} {σ : Sto}
theorem run_append_in {t t2 e ty : TypeId} {ti ei : TyI} {w : World} {G : Gh} {X : Value} {ys : List AV} (ht : C.ty t = some ti) (hd : ti.desc = .slice e) (he : C.ty e = some ei) (hX : Src C G w t2 ei.size X ys)
    (b o sLen sCap : Nat) (vs : Array Value) (ty' : TypeId) (hb : w.heap[b]? = some (.cells vs ty' (0, 0))) (hroom : sLen + ys.length ≤ sCap) (hfit : o + sCap * ei.size ≤ vs.size) :
    ∃ news : List Value, CR G (flat ys) news.toArray ∧
      (Builtin.append_ #[t, t2] ty #[.slice (some ⟨b, o, none⟩) sLen sCap, X]).run C.P w = .ok (.slice (some ⟨b, o, none⟩) (sLen + ys.length) sCap) (w.setRow b (wrV vs (o + sLen * ei.size) news)) := by
  obtain ⟨i2, hi2, hni⟩ := hX.ty
  obtain ⟨news, n1, n2, n3⟩ := hX.cells w rfl
  have hnl : news.length = ys.length * ei.size := by have := n2.1; rw [(flat_get hX.el).1] at this; simpa using this
  have hle : (sLen + ys.length) * ei.size ≤ sCap * ei.size := Nat.mul_le_mul_right _ hroom
  rw [Nat.add_mul] at hle
  have hst := run_storeCells_at C.P b (o + sLen * ei.size) ty' news 0 vs w hb (by omega) n3
  simp only [Nat.add_zero] at hst
  refine ⟨news, n2, ?_⟩
  have hz : (match i2.desc with | .int _ => true | _ => false) = false := by
    cases hd2 : i2.desc with
    | int k => exact absurd hd2 (hni k)
    | _ => rfl
  simp only [Builtin.append_, List.getElem?_toArray, List.getElem?_cons_zero, List.getElem?_cons_succ, Sem.run_bind, C.run_und ht, Result.andThen_ok, hd, C.run_size he, C.run_und hi2]
  simp only [Sem.run_bind, C.run_und hi2, Result.andThen_ok, Sem.run_pure, hz, Bool.false_eq_true, if_false, hX.len, hroom, if_true, Bool.not_false, n1, add_at]
  simp [hst, wrV]
theorem snd_append_row {t t2 e : TypeId} {ti ei : TyI} {s x : Operand} {id off len es : Nat} {xs ys : List AV} (ht : C.ty t = some ti) (hd : ti.desc = .slice e) (he : C.ty e = some ei)
    (ho : o.op = .call { callee := .builtin .append, args := #[s, x], argTypes := #[t, t2] }) (hs : ρ s = .row id off len) (hg : σ.get id = some (.row es xs false))
    (hsrc : ∀ w0 G a w, Inv C.gl w0 G σ w → Rep G (ρ x) (Act.eval a x) → Src C G w t2 ei.size (a.eval x) ys) :
    Snd C o ρ σ ⟨off + len = xs.length ∧ es = ei.size ∧ (∀ x ∈ xs, x.cells.all AV.one = true) ∧ ei.zero.cells.size = ei.size ∧ (len + ys.length) * ei.bytes ≤ 140737488355328 ∧ len + ys.length ≤ 9223372036854775807,
      .row σ.next 0 (len + ys.length), (σ.del id).add (.row es (xs.drop off ++ ys) false)⟩ := by
  rintro ⟨hlen, hes, hone, hz, hbb, h63⟩ w0 G a w hi hr
  have hp := hr s (by simp [ho, Op.operands, Call.operands])
  have hX := hsrc w0 G a w hi (hr x (by simp [ho, Op.operands, Call.operands]))
  rw [hs] at hp
  subst hes
  cases hv : a.eval s with
  | slice ad len' cap =>
    rw [hv] at hp
    have hp' := hp
    cases hp with
    | row _ _ _ _ o' B hj hc hcase =>
      obtain ⟨hbase, vs, ty, g1, g2, g3, g4, g5, g6, g7⟩ := hi.obj id _ B hg hj
      have hdl : (xs.drop off).length = len := by simp; omega
      have hmul : off * ei.size + len * ei.size = xs.length * ei.size := by rw [← Nat.add_mul]; congr 1
      by_cases hroom : len + ys.length ≤ cap
      · rcases hcase with ⟨c1, c2⟩ | ⟨rfl, rfl⟩
        · -- in place
          rw [g3] at c1 c2
          obtain ⟨news, n1, n2⟩ := run_append_in (ty := o.type) ht hd he hX B.b o' len cap vs ty g1 hroom (by omega)
          have hnl : news.length = ys.length * ei.size := by have := n1.1; rw [(flat_get hX.el).1] at this; simpa using this
          have hle : (len + ys.length) * ei.size ≤ cap * ei.size := Nat.mul_le_mul_right _ hroom
          rw [Nat.add_mul] at hle
          have hwsz : (wrV vs (o' + len * ei.size) news).size = vs.size := wrV_size (by omega)
          have hset : Inv C.gl w0 G (σ.set id (.row ei.size (xs ++ ys) false)) (w.setRow B.b (wrV vs (o' + len * ei.size) news)) := by
            refine Inv.set hi id _ _ B hg hj rfl rfl rfl (by simp) (fun b' hb' => setRow_other w B.b b' _ hb') (fun k' v' hk' => ?_) ?_
            · have hlo : k' < B.o0 := by
                rcases Nat.lt_or_ge k' B.o0 with h | h
                · exact h
                · rw [g7 k' h] at hk'; simp at hk'
              have hcell := hi.imm _ _ _ hk'
              rw [cell_at g1] at hcell
              rw [cell_at (setRow_heap w B.b vs _ ty _ g1), wrV_get (by omega), if_neg (by omega)]
              exact hcell
            · refine ⟨_, ty, setRow_heap w B.b vs _ ty _ g1, by rw [hwsz, g2], g3, by rw [List.length_append, Nat.add_mul]; omega, fun i x hx => ?_, fun i x k c hx hc => ?_, fun k hk => ?_⟩
              · rw [List.getElem?_append] at hx
                split at hx
                · exact g5 i x hx
                · exact hX.el x (mem_of_get hx)
              · rw [List.getElem?_append] at hx
                split at hx
                · rename_i hlt
                  have hk : k < ei.size := by rw [← g5 i x hx]; exact (List.getElem?_eq_some_iff.1 hc).1
                  have : (i + 1) * ei.size ≤ xs.length * ei.size := Nat.mul_le_mul_right _ hlt
                  rw [Nat.succ_mul] at this
                  rw [wrV_get (by omega), if_neg (by omega)]
                  exact g6 i x k c hx hc
                · rename_i hge
                  have hk : k < ei.size := by rw [← hX.el x (mem_of_get hx)]; exact (List.getElem?_eq_some_iff.1 hc).1
                  have hi2 := (List.getElem?_eq_some_iff.1 hx).1
                  have e1 : (i - xs.length) * ei.size + xs.length * ei.size = i * ei.size := by rw [← Nat.add_mul]; congr 1; omega
                  have : (i - xs.length + 1) * ei.size ≤ ys.length * ei.size := Nat.mul_le_mul_right _ hi2
                  rw [Nat.succ_mul] at this
                  rw [wrV_get (by omega), if_pos (by omega)]
                  obtain ⟨u, hu, hru⟩ := n1.flat hX.el (i - xs.length) x k c hx hc
                  refine ⟨u, ?_, hru⟩
                  rw [← hu, List.getElem?_toArray]; congr 1; omega
              · simp only [Bool.false_eq_true, false_and, if_false]
                simpa using g7 k hk
          have hget : (σ.set id (.row ei.size (xs ++ ys) false)).get id = some (.row ei.size (xs ++ ys) false) := by simp [Sto.set]
          obtain ⟨r1, r2⟩ := row_rename hset (off := off) hget hj (by simp; omega)
          have hsto : ((σ.set id (.row ei.size (xs ++ ys) false)).del id).add (.row ei.size ((xs ++ ys).drop off) false) = (σ.del id).add (.row ei.size (xs.drop off ++ ys) false) := by
            rw [List.drop_append_of_le_length (show off ≤ xs.length by omega)]
            simp only [Sto.add, Sto.del, Sto.set]
            congr 1
            funext i
            by_cases e1 : i = σ.next
            · simp [e1]
            · by_cases e2 : i = id
              · simp [e2]
              · simp [e1, e2]
          rw [hsto] at r1 r2
          refine ⟨_, _, .slice (some ⟨B.b, o', none⟩) (len + ys.length) cap, _, by simp only [execOp, ho, resolve, invoke, builtin, Sem.run_bind, Sem.run_pure, Result.andThen_ok]; simp only [List.map_toArray, List.map_cons, List.map_nil, hv]; rw [n2]; rfl, .inl rfl, ?_, r1, (Ext.set id _ _ B hg hj (by simp) (fun b' hb' => setRow_other w B.b b' _ hb')).trans r2⟩
          exact .row _ _ _ _ _ ⟨B.b, B.o0 + off * ei.size, B.sz, ei.size⟩ (by simp [Gh.new, Sto.set]) hroom (.inl ⟨by simp only [Nat.zero_mul]; omega, c2⟩)
        · -- nothing is appended to nothing
          have hy : ys = [] := List.eq_nil_of_length_eq_zero (by omega)
          subst hy
          obtain ⟨i2, hi2, hni⟩ := hX.ty
          obtain ⟨news, n1, n2, n3⟩ := hX.cells w rfl
          have hnn : news = [] := by have := n2.1; simpa [flat] using this
          subst hnn
          obtain ⟨r1, r2⟩ := row_rename hi (off := off) hg hj (by omega)
          have hm : (match i2.desc with | .int _ => true | _ => false) = false := by
            cases hd2 : i2.desc with
            | int k => exact absurd hd2 (hni k)
            | _ => rfl
          simp only [List.append_nil, List.length_nil, Nat.add_zero] at *
          refine ⟨_, _, .slice (some ⟨B.b, o', none⟩) 0 0, w, ?_, .inl rfl, ?_, r1, r2⟩
          · simp only [execOp, ho, resolve, invoke, builtin, Sem.run_bind, Sem.run_pure, Result.andThen_ok]
            simp only [List.map_toArray, List.map_cons, List.map_nil, hv]
            simp only [Builtin.append_, List.getElem?_toArray, List.getElem?_cons_zero, List.getElem?_cons_succ, Sem.run_bind, C.run_und ht, Result.andThen_ok, hd, C.run_size he, C.run_und hi2]
            simp only [Sem.run_bind, C.run_und hi2, Result.andThen_ok, Sem.run_pure, hm, Bool.false_eq_true, if_false, hX.len, List.length_nil, Nat.add_zero, Nat.le_refl, if_true, Bool.not_false, n1]
            simp [storeCells]
          · exact .row _ _ _ _ _ ⟨B.b, B.o0 + off * ei.size, B.sz, ei.size⟩ (by simp [Gh.new]) (Nat.le_refl _) (.inr ⟨rfl, rfl⟩)
      · -- a new array
        obtain ⟨olds, o1, o2, o3, o4⟩ := row_cells hi hg hp' (by omega) hone
        have htk : (xs.drop off).take len = xs.drop off := List.take_of_length_le (by omega)
        rw [htk] at o1 o3
        have hol : olds.length = len * ei.size := by have := o1.1; rw [(flat_get o3).1, hdl] at this; simpa using this
        obtain ⟨cap', news, zs, n1, n2, n3, n4⟩ := run_append_new (ty := o.type) ht hd he hX (some ⟨B.b, o', none⟩) len cap olds hol (fun w' hw' => run_firstCells ei.size _ _ _ olds hol fun j v hj' => by
          obtain ⟨a', ha, hcc⟩ := o4 j v hj'
          exact ⟨a', ha, (World.cell?_of_block (w := w) (a := a'.add j) (by rw [hw'])).trans hcc⟩) (by omega) h63 hbb
        have hi2 : Inv C.gl w0 G (σ.del id) w.drew := (hi.heap (w' := w.drew) rfl rfl rfl rfl).del id
        have helall : ∀ z ∈ xs.drop off ++ ys, z.cells.length = ei.size := fun z hz' => by
          rcases List.mem_append.1 hz' with h | h
          · exact o3 z h
          · exact hX.el z h
        have hcr : CR G (flat (xs.drop off ++ ys)) (olds.toArray ++ news.toArray) := by rw [flat_append]; exact o1.append n2
        have hlen2 : (xs.drop off ++ ys).length = len + ys.length := by rw [List.length_append, hdl]
        have hsz : (olds.toArray ++ news.toArray ++ zs).size = cap' * ei.size := by
          have h1 := hcr.1
          rw [(flat_get helall).1, hlen2] at h1
          rw [Array.size_append, h1, n3, hz, ← Nat.add_mul]; congr 1; omega
        obtain ⟨G', r1, r2, r3⟩ := new_row hi2 helall hcr zs e cap' hsz (by omega)
        rw [hlen2] at r1
        have hext : Ext G σ w G (σ.del id) w.drew := (Ext.heap (w := w) (w' := w.drew) G σ rfl).trans (Ext.del id)
        exact ⟨G', _, _, _, by simp only [execOp, ho, resolve, invoke, builtin, Sem.run_bind, Sem.run_pure, Result.andThen_ok]; simp only [List.map_toArray, List.map_cons, List.map_nil, hv]; rw [n4]; rfl, .inl rfl, r1, r2, hext.trans r3⟩
  | _ => rw [hv] at hp; cases hp
theorem snd_makeSlice {t e : TypeId} {ti ei : TyI} {x y : Operand} {k q : IntKind} {n c : Int} (ht : C.ty t = some ti) (hd : ti.desc = .slice e) (he : C.ty e = some ei) (ho : o.op = .makeSlice t x y) (hx : ρ x = .int k n) (hy : ρ y = .int q c) :
    Snd C o ρ σ ⟨0 ≤ n ∧ n ≤ c ∧ c * ei.bytes ≤ 281474976710656 ∧ c ≤ 281474976710656 ∧ (ofV ei.zero).def = true ∧ (ofV ei.zero).cells.length = ei.size ∧ 0 < ei.size,
      .row σ.next 0 n.toNat, σ.add (.row ei.size (List.replicate n.toNat (ofV ei.zero)) false)⟩ := by
  rintro ⟨h0, h1, h2, h3, h4, h5, h6⟩ w0 G a w hi hr
  have e1 := (hr x (by simp [ho, Op.operands])).isInt (by rw [hx]; rfl)
  have e2 := (hr y (by simp [ho, Op.operands])).isInt (by rw [hy]; rfl)
  rw [hx] at e1
  rw [hy] at e2
  simp only [AV.theK, AV.theI] at e1 e2
  obtain ⟨n, rfl⟩ := Int.eq_ofNat_of_zero_le h0
  obtain ⟨c, rfl⟩ := Int.eq_ofNat_of_zero_le (Int.le_trans h0 h1)
  simp only [Int.toNat_natCast] at *
  have hz := ofV_cells G ei.zero h4
  have hzs : ei.zero.cells.size = ei.size := by rw [hz.1, h5]
  have hcr := hz.zeros (by rw [h5]; exact h6) c (ofV ei.zero) rfl
  rw [h5] at hcr
  have wr1 : IntKind.i64.wrap (n : Int) = n := IntWalk.i64_in _ (by omega)
  have wr2 : IntKind.i64.wrap (c : Int) = c := IntWalk.i64_in _ (by omega)
  obtain ⟨hu, r, q1, q2, q3, q4⟩ := C.ok e ei he
  have hrun : (execOp a.eval o).run C.P w = .ok (.value (.slice (some ⟨w.heap.size, 0, none⟩) n c)) (w.alloc (.cells ((Array.range (c * ei.size)).map (fun i => ei.zero.cells[i % ei.zero.cells.size]!)) e)) := by
    have hbytes : ∀ w, (typeInfo e).run C.P w = .ok r w := fun w => by simp [typeInfo, q1]
    have hask : ∀ (n : Nat) (w : World), (askRoom n).run C.P w = .ok () w := fun n w => by
      unfold askRoom
      split <;> simp [mark, Sem.run]
    have t1 : ¬ ((n : Int) > (c : Int)) := by omega
    have t2 : ¬ ((n : Int) < 0) := by omega
    have t3 : ¬ ((c : Int) < 0) := by omega
    have t4 : ¬ ((r.bytes : Int) * (c : Int) > 2 ^ 48) := by
      rw [q3, Int.mul_comm]; omega
    by_cases hz0 : c * ei.size = 0
    · have hc0 : c = 0 := by rcases Nat.mul_eq_zero.1 hz0 with h | h <;> omega
      subst hc0
      have hr0 : ∀ (f : Nat → Value), Array.map f (Array.range (0 * ei.size)) = #[] := fun f => by simp
      have hr1 : ∀ (f : Nat → Value), Array.map f (Array.range 0) = #[] := fun f => by simp
      simp only [execOp, ho, Sem.run_bind, Instr.makeSlice, e1, e2, C.run_und ht, hd, asInt, asIntOf, Sem.run_pure, Result.andThen_ok, hbytes, wr1, wr2, t1, t2, t3, t4, decide_false, Bool.or_false, Bool.false_eq_true, if_false, hask, C.run_size he, hr0]
      simp [newRow, newObj, Sem.run, hr1]
    · simp only [execOp, ho, Sem.run_bind, Instr.makeSlice, e1, e2, C.run_und ht, hd, asInt, asIntOf, Sem.run_pure, Result.andThen_ok, hbytes, wr1, wr2, t1, t2, t3, t4, decide_false, Bool.or_false, Bool.false_eq_true, if_false, hask, C.run_size he]
      simp only [Int.toNat_natCast, hz0, if_false, Sem.run_bind, C.run_zero he, Result.andThen_ok, Sem.run_pure]
      simp [newRow, newObj, Sem.run]
  have hel : ∀ z ∈ List.replicate n (ofV ei.zero), z.cells.length = ei.size := fun z hz => by rw [List.eq_of_mem_replicate hz, h5]
  have hsplit : List.replicate c (ofV ei.zero) = List.replicate n (ofV ei.zero) ++ List.replicate (c - n) (ofV ei.zero) := by rw [List.replicate_append_replicate]; congr 1; omega
  -- the first n of the cells
  let all := (Array.range (c * ei.size)).map (fun i => ei.zero.cells[i % ei.zero.cells.size]!)
  have hall : all.size = c * ei.size := by simp [all]
  have hcr1 : CR G (flat (List.replicate n (ofV ei.zero))) (all.extract 0 (n * ei.size)) := by
    have hle : n * ei.size ≤ c * ei.size := Nat.mul_le_mul_right _ (by omega)
    refine ⟨by rw [(flat_get hel).1, Array.size_extract, hall, List.length_replicate]; omega, fun i d hd' => ?_⟩
    have hlt : i < n * ei.size := by have := (List.getElem?_eq_some_iff.1 hd').1; rw [(flat_get hel).1] at this; simpa using this
    obtain ⟨u, hu', hru⟩ := hcr.2 i d (by rw [hsplit, flat_append, List.getElem?_append_left (List.getElem?_eq_some_iff.1 hd').1]; exact hd')
    refine ⟨u, ?_, hru⟩
    rw [Array.getElem?_extract, if_pos (by rw [hall]; omega), Nat.zero_add]
    exact hu'
  have hjoin : all.extract 0 (n * ei.size) ++ all.extract (n * ei.size) (c * ei.size) = all := by
    have hle : n * ei.size ≤ c * ei.size := Nat.mul_le_mul_right _ (by omega)
    rw [Array.extract_append_extract, Nat.min_eq_left (Nat.zero_le _), Nat.max_eq_right hle, ← hall, Array.extract_size]
  obtain ⟨G', r1, r2, r3⟩ := new_row hi hel hcr1 (all.extract (n * ei.size) (c * ei.size)) e c (by rw [hjoin, hall]) (by simp; omega)
  rw [hjoin] at r2 r3
  simp only [List.length_replicate] at r1
  exact ⟨G', _, _, _, hrun, .inl rfl, r1, r2, r3⟩
end ops
end Go.Lg
/- Lg, part H: code, calls and functions. -/
namespace Go.Lg
open Go.RowKit
def FW (ro : Option Nat) : Fence := { Fence.wide with round := ro }
structure Rel (C : Cx) (w0 : World) (G : Gh) (nt : Nat) (env : Env) (σ : Sto) (a : Act) (w : World) : Prop where
  inv : Inv C.gl w0 G σ w
  env : EnvRep G nt env a.tmps
def mk (r : Nat) : Deferred := { target := .collected r, args := #[] }
structure Marks (G : Gh) (σ : Sto) (w : World) (lo : Nat) (ms : List Nat) : Prop where
  nd : ms.Nodup
  ok : ∀ r ∈ ms, lo ≤ r ∧ w.heap[r]? = some (.deferred (some [])) ∧ ¬ Own G σ r
theorem Marks.nil {G : Gh} {σ : Sto} {w : World} {lo : Nat} : Marks G σ w lo [] := ⟨.nil, fun r h => by cases h⟩
theorem Marks.ext {G G' : Gh} {σ σ' : Sto} {w w' : World} {lo : Nat} {ms : List Nat} (h : Marks G σ w lo ms) (e : Ext G σ w G' σ' w') : Marks G' σ' w' lo ms :=
  ⟨h.nd, fun r hr => by
    obtain ⟨h1, h2, h3⟩ := h.ok r hr
    obtain ⟨k1, _, k3⟩ := e.keep r (Array.getElem?_eq_some_iff.1 h2).1 h3
    exact ⟨h1, k1.trans h2, k3⟩⟩
theorem Marks.append {G : Gh} {σ : Sto} {w : World} {lo mid : Nat} {ms ns : List Nat} (h : Marks G σ w lo ms) (k : Marks G σ w mid ns) (hm : ∀ r ∈ ms, r < mid) (hl : lo ≤ mid) : Marks G σ w lo (ns ++ ms) :=
  ⟨List.nodup_append.2 ⟨k.nd, h.nd, fun a ha b hb => by have := (k.ok a ha).1; have := hm b hb; omega⟩, fun r hr => by
    rcases List.mem_append.1 hr with hr | hr
    · obtain ⟨k1, k2, k3⟩ := k.ok r hr; exact ⟨Nat.le_trans hl k1, k2, k3⟩
    · exact h.ok r hr⟩
def RoOK (G : Gh) : Option Nat → Option Nat → Prop
  | none, none => True
  | some id, some l => ∃ B, G.j id = some B ∧ B.b = l
  | _, _ => False
theorem RoOK.mono {G G' : Gh} {ro cr : Option Nat} (h : RoOK G ro cr) (le : G.le G') : RoOK G' ro cr := by
  cases ro <;> cases cr <;> simp only [RoOK] at h ⊢
  obtain ⟨B, h1, h2⟩ := h
  exact ⟨B, le.j _ _ h1, h2⟩
def CodeS (C : Cx) (ro : Option Nat) (nt : Nat) (c : Code) (env : Env) (σ : Sto) (e : Exit) (env' : Env) (σ' : Sto) : Prop :=
  ∀ w0 G a w, Rel C w0 G nt env σ a w → ∀ cr, RoOK G ro cr → c.wpIn (FW cr) 0 C.P (fun e2 a' w' => e2 = e ∧ ∃ G' ms, Rel C w0 G' nt env' σ' a' w' ∧ Ext G σ w G' σ' w' ∧ a'.defers = ms.map mk ++ a.defers ∧ Marks G' σ' w' w.heap.size ms) a w
def OpStep (C : Cx) (o : Oper) (ρ : Operand → AV) (σ : Sto) (v : AV) (σ' : Sto) : Prop :=
  ∀ ro w0 G a w, Inv C.gl w0 G σ w → (∀ x ∈ o.op.operands.toList, Rep G (ρ x) (Act.eval a x)) → ∀ (next : Act → World → Prop) (Q : Exit → Act → World → Prop),
    (∀ G' v' w', Rep G' v v' → Inv C.gl w0 G' σ' w' → Ext G σ w G' σ' w' → next (a.put o.dst v') w') → o.wpIn (FW ro) 0 C.P a w next Q
def CallS (C : Cx) (f : FuncId) (args : List AV) (σ : Sto) (r : AV) (σ' : Sto) : Prop :=
  ∀ w0 G w (V : Array Value), Inv C.gl w0 G σ w → V.size = args.length → (∀ (i : Nat) (x : AV) (v : Value), args[i]? = some x → V[i]? = some v → Rep G x v) →
    CallsIn Fence.wide 0 C.P f V w fun e w' => ∃ G' v, e = .returned v ∧ Rep G' r v ∧ Inv C.gl w0 G' σ' w' ∧ Ext G σ w G' σ' w'
theorem callsIn_round {P : Program} {f : FuncId} {V : Array Value} {w : World} {R : Ending → World → Prop} (ro : Option Nat) (n : Nat) (h : CallsIn Fence.wide 0 P f V w R) : CallsIn (FW ro) n P f V w R :=
  ⟨trivial, fun cs _ => h.2 cs (fun d hd => by cases hd)⟩
theorem opStep_of_snd {C : Cx} {o : Oper} {ρ : Operand → AV} {σ : Sto} {r : AR} (h : Snd C o ρ σ r) (hc : r.c) (hd : ∀ c, o.op ≠ .defer c) : OpStep C o ρ σ r.v r.s := by
  intro ro w0 G a w hi hx next Q hn
  obtain ⟨G', nx, v', w', hrun, hnx, hr, hi', he⟩ := h hc w0 G a w hi hx
  refine ⟨fun _ _ => trivial, ?_⟩
  rw [Oper.semAt_eq _ _ _ hd, hrun]
  rcases hnx with rfl | ⟨rfl, rfl⟩
  · exact hn G' v' w' hr hi' he
  · exact hn G' undef w' hr hi' he
structure Body (P : Program) (f : FuncId) (fn : Func) (c : Code) : Prop where
  here : P.funcs[f]? = some fn
  name : (fn.name == "runtime.NumGoroutine") = false
  body : fn.body = some c
theorem opStep_call {C : Cx} {o : Oper} {ρ : Operand → AV} {σ σ' : Sto} {f : Operand} {as : Array Operand} {ts : Array TypeId} {g : FuncId} {caps : List AV} {fn : Func} {c : Code} {r : AV}
    (ho : o.op = .call { callee := .value f, args := as, argTypes := ts }) (hf : ρ f = .fn g caps) (hb : Body C.P g fn c) (h : CallS C g (as.toList.map ρ ++ caps) σ r σ') : OpStep C o ρ σ r σ' := by
  intro ro w0 G a w hi hx next Q hn
  refine ⟨fun _ _ => trivial, ?_⟩
  rw [Oper.semAt_eq _ _ _ (fun c hc => by rw [ho] at hc; cases hc)]
  have hp := hx f (by simp [ho, Op.operands, Call.operands])
  rw [hf] at hp
  cases hv : a.eval f with
  | func fv first cv =>
    rw [hv] at hp
    cases hp with
    | fn _ _ _ hl hcv =>
      have hargs : ∀ (i : Nat) (x : AV) (v : Value), (as.toList.map ρ ++ caps)[i]? = some x → (as.map a.eval ++ cv)[i]? = some v → Rep G x v := by
        intro i x v h1 h2
        rw [List.getElem?_append] at h1
        rw [Array.getElem?_append] at h2
        simp only [List.length_map, Array.length_toList, Array.size_map] at h1 h2
        split at h1
        · rename_i hlt
          rw [if_pos hlt] at h2
          simp only [List.getElem?_map, Array.getElem?_toList, Array.getElem?_map] at h1 h2
          cases hy : as[i]? with
          | none => simp [hy] at h1
          | some y =>
            simp only [hy, Option.map_some, Option.some.injEq] at h1 h2
            subst h1; subst h2
            exact hx y (by simp only [ho, Op.operands, Call.operands]; rw [Array.toList_append]; exact List.mem_append_right _ (Array.mem_toList_iff.2 (Array.mem_of_getElem? hy)))
        · rename_i hge
          rw [if_neg hge] at h2
          exact hcv _ x v h1 h2
      have hrun : (execOp a.eval o).run C.P w = .ok (.enter g (as.map a.eval ++ cv)) w := by
        have hnm : ¬ (fn.name = "runtime.NumGoroutine") := by simpa using hb.name
        simp [execOp, ho, resolve, hv, Deferred.ofValue, invoke, callFunc, hb.here, hnm, hb.body]
      rw [hrun]
      refine ⟨(fun h => by cases h), ?_⟩
      refine callsIn_round ro _ ((h w0 G w (as.map a.eval ++ cv) hi (by simp [hl]) hargs).mono ?_)
      rintro e w' ⟨G', v, rfl, h1, h2, h3⟩
      exact hn G' v w' h1 h2 h3
  | _ => rw [hv] at hp; cases hp
def OpsS (C : Cx) (nt : Nat) (ops : Array Oper) (idx : List Nat) (env : Env) (σ : Sto) (env' : Env) (σ' : Sto) : Prop :=
  ∀ ro w0 G a w, Rel C w0 G nt env σ a w → ∀ (Q : Exit → Act → World → Prop) (rest : List Nat),
    (∀ G' a' w', Rel C w0 G' nt env' σ' a' w' → Ext G σ w G' σ' w' → a'.defers = a.defers → wpOpsIn (FW ro) 0 C.P ops Q rest a' w') → wpOpsIn (FW ro) 0 C.P ops Q (idx ++ rest) a w
def putA (env : Env) (d : Option Tmp) (v : AV) : Env := match d with | some d => upd env d v | none => env
def guardA (nt : Nat) (ops : Array Oper) (env : Env) (o : Oper) : Option (AV × Bool) :=
  match o.guard with
  | none => none
  | some (j, want) => some (match (ops[j]?).bind (·.dst) with | some d => if d < nt then env d else .undef | none => .undef, want)
def goesA (g : Option (AV × Bool)) : Bool := match g with | none => true | some (v, want) => v.goes want
def gOK (g : Option (AV × Bool)) : Prop := match g with | none => True | some (v, _) => v.isGd = true
theorem wanted_eq {nt : Nat} {ops : Array Oper} {env : Env} {o : Oper} {G : Gh} {tmps : Array Value} (he : EnvRep G nt env tmps) (hg : gOK (guardA nt ops env o)) : Region.wanted o (yielded ops tmps) = goesA (guardA nt ops env o) := by
  unfold Region.wanted guardA at *
  cases hgd : o.guard with
  | none => rfl
  | some jw =>
    obtain ⟨j, want⟩ := jw
    rw [hgd] at hg
    simp only [gOK, goesA] at hg ⊢
    cases hd : (ops[j]?).bind (·.dst) with
    | none => rw [hd] at hg; simp [AV.isGd] at hg
    | some d =>
      rw [hd] at hg
      simp only at hg ⊢
      by_cases hlt : d < nt
      · simp only [hlt, if_true] at hg ⊢
        have hr := he.rep d hlt
        have hs : d < tmps.size := by rw [he.size]; exact hlt
        rw [Array.getD_eq_getD_getElem?, Array.getElem?_eq_getElem hs] at hr
        simp only [Option.getD_some] at hr
        have h2 : tmps[d]? = some tmps[d] := Array.getElem?_eq_getElem hs
        generalize tmps[d] = u at hr h2
        cases hv : env d with
        | bool b =>
          rw [hv] at hr
          cases hr
          simp only [yielded, hd, Option.bind_some, h2, AV.goes]
          cases b <;> cases want <;> rfl
        | tup vs =>
          rw [hv] at hr hg
          cases vs with
          | nil =>
            cases hr with
            | tup _ us hl _ =>
              simp only [yielded, hd, Option.bind_some, h2, AV.goes]
              rfl
          | cons v vs => simp [AV.isGd] at hg
        | _ => rw [hv] at hg; simp [AV.isGd] at hg
      · simp only [hlt, if_false] at hg; simp [AV.isGd] at hg
section
variable {C : Cx} {nt : Nat} {ops : Array Oper}
theorem opsS_nil {env : Env} {σ : Sto} : OpsS C nt ops [] env σ env σ := fun ro w0 G a w h Q rest k => k G a w h (.refl G σ w) rfl
theorem opsS_cons {i : Nat} {is : List Nat} {o : Oper} {env env' : Env} {σ σ1 σ' : Sto} {v : AV} (ho : ops[i]? = some o) (hg : gOK (guardA nt ops env o))
    (hstep : goesA (guardA nt ops env o) = true → OpStep C o (ev C nt env) σ v σ1) (hskip : goesA (guardA nt ops env o) = false → v = .skp ∧ σ1 = σ)
    (h : OpsS C nt ops is (putA env o.dst v) σ1 env' σ') : OpsS C nt ops (i :: is) env σ env' σ' := by
  intro ro w0 G a w hrel Q rest hk
  simp only [List.cons_append, wpOpsIn, ho]
  rw [wanted_eq hrel.env hg]
  cases hgo : goesA (guardA nt ops env o) with
  | true =>
    simp only [if_true]
    refine hstep hgo ro w0 G a w hrel.inv (fun x _ => hrel.env.ev hrel.inv x) _ _ fun G' v' w' hr hi he => ?_
    refine h ro w0 G' (a.put o.dst v') w' ⟨hi, ?_⟩ Q rest fun G2 a2 w2 h2 e2 d2 => hk G2 a2 w2 h2 (he.trans e2) (by rw [d2]; cases o.dst <;> rfl)
    exact (hrel.env.mono he.le).put hr o.dst
  | false =>
    obtain ⟨rfl, rfl⟩ := hskip hgo
    simp only [Bool.false_eq_true, if_false]
    refine ⟨fun _ _ => trivial, ?_⟩
    refine h ro w0 G (a.put o.dst undef) w ⟨hrel.inv, hrel.env.put (rep_skp G) o.dst⟩ Q rest fun G2 a2 w2 h2 e2 d2 => hk G2 a2 w2 h2 e2 (by rw [d2]; cases o.dst <;> rfl)
end
section
variable {C : Cx} {ro : Option Nat} {nt : Nat}
theorem codeS_region {id : Nat} {ops : Array Oper} {env env' : Env} {σ σ' : Sto} (h : OpsS C nt ops (List.range ops.size) env σ env' σ') : CodeS C ro nt (.region id ops false) env σ .normal env' σ' := by
  intro w0 G a w hrel cr hcr
  refine wpIn_region ?_
  have := h cr w0 G a w hrel (fun e2 a' w' => e2 = .normal ∧ ∃ G' ms, Rel C w0 G' nt env' σ' a' w' ∧ Ext G σ w G' σ' w' ∧ a'.defers = ms.map mk ++ a.defers ∧ Marks G' σ' w' w.heap.size ms) [] fun G' a' w' h1 h2 h3 => by
    simp only [wpOpsIn]
    exact ⟨trivial, G', [], h1, h2, by simpa using h3, Marks.nil⟩
  simpa using this
theorem codeS_skip {env : Env} {σ : Sto} : CodeS C ro nt .skip env σ .normal env σ := fun w0 G a w h cr hcr => wpIn_skip ⟨rfl, G, [], h, .refl G σ w, rfl, Marks.nil⟩
theorem codeS_label {l : Nat} {env : Env} {σ : Sto} : CodeS C ro nt (.label l) env σ .normal env σ := fun w0 G a w h cr hcr => wpIn_label ⟨rfl, G, [], h, .refl G σ w, rfl, Marks.nil⟩
theorem codeS_exit {id : Nat} {env : Env} {σ : Sto} : CodeS C ro nt (.exit id) env σ (.exit id) env σ := fun w0 G a w h cr hcr => wpIn_exit ⟨rfl, G, [], h, .refl G σ w, rfl, Marks.nil⟩
theorem codeS_ret {env : Env} {σ : Sto} : CodeS C ro nt .ret env σ .ret env σ := fun w0 G a w h cr hcr => wpIn_ret ⟨rfl, G, [], h, .refl G σ w, rfl, Marks.nil⟩
theorem post_trans {w0 : World} {G G1 : Gh} {env1 env' : Env} {σ σ1 σ' : Sto} {a a1 : Act} {w w1 : World} {ms1 : List Nat} (e1 : Ext G σ w G1 σ1 w1) (d1 : a1.defers = ms1.map mk ++ a.defers) (m1 : Marks G1 σ1 w1 w.heap.size ms1)
    {a' : Act} {w' : World} (h : ∃ G' ms, Rel C w0 G' nt env' σ' a' w' ∧ Ext G1 σ1 w1 G' σ' w' ∧ a'.defers = ms.map mk ++ a1.defers ∧ Marks G' σ' w' w1.heap.size ms) :
    ∃ G' ms, Rel C w0 G' nt env' σ' a' w' ∧ Ext G σ w G' σ' w' ∧ a'.defers = ms.map mk ++ a.defers ∧ Marks G' σ' w' w.heap.size ms := by
  obtain ⟨G', ms, h1, h2, h3, h4⟩ := h
  refine ⟨G', ms ++ ms1, h1, e1.trans h2, by rw [h3, d1]; simp, (m1.ext h2).append h4 (fun r hr => ?_) e1.size⟩
  exact (Array.getElem?_eq_some_iff.1 (m1.ok r hr).2.1).1
theorem codeS_seq {x y : Code} {env env1 env' : Env} {σ σ1 σ' : Sto} {e : Exit} (hx : CodeS C ro nt x env σ .normal env1 σ1) (hy : CodeS C ro nt y env1 σ1 e env' σ') : CodeS C ro nt (.seq x y) env σ e env' σ' := by
  intro w0 G a w h cr hcr
  refine wpIn_seq (wpIn_mono (hx w0 G a w h cr hcr) ?_)
  rintro e2 a1 w1 ⟨rfl, G1, ms1, h1, h2, h3, h4⟩
  refine wpIn_mono (hy w0 G1 a1 w1 h1 cr (hcr.mono h2.le)) ?_
  rintro e3 a' w' ⟨rfl, hp⟩
  exact ⟨rfl, post_trans (env1 := env1) h2 h3 h4 hp⟩
theorem codeS_seq_exit {x y : Code} {env env1 : Env} {σ σ1 : Sto} {e : Exit} (hx : CodeS C ro nt x env σ e env1 σ1) (he : e ≠ .normal) : CodeS C ro nt (.seq x y) env σ e env1 σ1 := by
  intro w0 G a w h cr hcr
  refine wpIn_seq (wpIn_mono (hx w0 G a w h cr hcr) ?_)
  rintro e2 a1 w1 ⟨rfl, hp⟩
  cases e2 <;> first | exact absurd rfl he | exact ⟨rfl, hp⟩
theorem codeS_cond {c : Operand} {x y : Code} {env env' : Env} {σ σ' : Sto} {e : Exit} {t : Bool} (hc : ev C nt env c = .bool t) (h : CodeS C ro nt (if t then x else y) env σ e env' σ') : CodeS C ro nt (.cond c x y) env σ e env' σ' := by
  intro w0 G a w hr cr hcr
  have he := hr.env.ev hr.inv c
  rw [hc] at he
  exact wpIn_cond (he.isBool rfl) (h w0 G a w hr cr hcr)
def inBlk (id : Nat) (e : Exit) : Exit :=
  match e with
  | .exit id' => if id' = id then .normal else .exit id'
  | e => e
theorem codeS_block {id : Nat} {c : Code} {env env' : Env} {σ σ' : Sto} {e : Exit} (h : CodeS C ro nt c env σ e env' σ') : CodeS C ro nt (.block id c) env σ (inBlk id e) env' σ' := by
  intro w0 G a w hr cr hcr
  refine wpIn_block (wpIn_mono (h w0 G a w hr cr hcr) ?_)
  rintro e2 a1 w1 ⟨rfl, hp⟩
  cases e2 with
  | exit id' =>
    by_cases e : id' = id
    · simp only [Exit.inBlock, inBlk, if_pos e]; exact ⟨trivial, hp⟩
    · simp only [Exit.inBlock, inBlk, if_neg e]; exact ⟨trivial, hp⟩
  | _ => exact ⟨rfl, hp⟩
inductive LoopS (C : Cx) (ro : Option Nat) (nt : Nat) (c : Code) : Env → Sto → Exit → Env → Sto → Prop
  | last {env env' : Env} {σ σ' : Sto} {e : Exit} (h : CodeS C ro nt c env σ e env' σ') (he : e ≠ .normal) : LoopS C ro nt c env σ e env' σ'
  | more {env env1 env' : Env} {σ σ1 σ' : Sto} {e : Exit} (h : CodeS C ro nt c env σ .normal env1 σ1) (k : LoopS C ro nt c env1 σ1 e env' σ') : LoopS C ro nt c env σ e env' σ'
theorem roundsIn_mono {F : Fence} {n : Nat} {P : Program} {c : Code} {Q Q' : Exit → Act → World → Prop} (hq : ∀ e a w, Q e a w → Q' e a w) : ∀ (m : Nat) (a : Act) (w : World), Code.roundsIn F n P c Q m a w → Code.roundsIn F n P c Q' m a w
  | 0, _, _, h => h.elim
  | m + 1, a, w, h => wpIn_mono h fun e a' w' he => by
    cases e with
    | normal => exact roundsIn_mono hq m a' w' he
    | _ => exact hq _ _ _ he
theorem codeS_loop {c : Code} {env env' : Env} {σ σ' : Sto} {e : Exit} (h : LoopS C ro nt c env σ e env' σ') : CodeS C ro nt (.loop c) env σ e env' σ' := by
  have hex : ∃ m, ∀ w0 G a w, Rel C w0 G nt env σ a w → ∀ cr, RoOK G ro cr → Code.roundsIn (FW cr) 0 C.P c (fun e2 a' w' => e2 = e ∧ ∃ G' ms, Rel C w0 G' nt env' σ' a' w' ∧ Ext G σ w G' σ' w' ∧ a'.defers = ms.map mk ++ a.defers ∧ Marks G' σ' w' w.heap.size ms) m a w := by
    induction h with
    | last h he =>
      refine ⟨1, fun w0 G a w hr cr hcr => ?_⟩
      refine wpIn_mono (h w0 G a w hr cr hcr) ?_
      rintro e2 a1 w1 ⟨rfl, hp⟩
      cases e2 <;> first | exact absurd rfl he | exact ⟨rfl, hp⟩
    | more h k ih =>
      obtain ⟨m, hm⟩ := ih
      refine ⟨m + 1, fun w0 G a w hr cr hcr => ?_⟩
      refine wpIn_mono (h w0 G a w hr cr hcr) ?_
      rintro e2 a1 w1 ⟨rfl, G1, ms1, h1, h2, h3, h4⟩
      refine roundsIn_mono ?_ m a1 w1 (hm w0 G1 a1 w1 h1 cr (hcr.mono h2.le))
      rintro e3 a' w' ⟨rfl, hp⟩
      exact ⟨rfl, post_trans (env1 := env) h2 h3 h4 hp⟩
  intro w0 G a w hr cr hcr
  obtain ⟨m, hm⟩ := hex
  exact wpIn_loop_rounds m (hm w0 G a w hr cr hcr)
def Env.le (env env1 : Env) : Prop := ∀ t, env1 t = env t ∨ env1 t = .undef
theorem EnvRep.weaken {G : Gh} {env env1 : Env} {tmps : Array Value} (h : EnvRep G nt env tmps) (hl : Env.le env env1) : EnvRep G nt env1 tmps :=
  ⟨h.size, fun t ht => by rcases hl t with e | e <;> rw [e]; exact h.rep t ht; exact .undef _⟩
theorem codeS_pre {c : Code} {env env1 env' : Env} {σ σ' : Sto} {e : Exit} (hl : Env.le env env1) (h : CodeS C ro nt c env1 σ e env' σ') : CodeS C ro nt c env σ e env' σ' :=
  fun w0 G a w hr cr hcr => h w0 G a w ⟨hr.inv, hr.env.weaken hl⟩ cr hcr
theorem codeS_post {c : Code} {env env1 env' : Env} {σ σ' : Sto} {e : Exit} (h : CodeS C ro nt c env σ e env1 σ') (hl : Env.le env1 env') : CodeS C ro nt c env σ e env' σ' :=
  fun w0 G a w hr cr hcr => wpIn_mono (h w0 G a w hr cr hcr) fun e2 a' w' hp => by
    obtain ⟨h1, G', ms, h2, h3⟩ := hp
    exact ⟨h1, G', ms, ⟨h2.inv, h2.env.weaken hl⟩, h3⟩
end
theorem codeS_preS {C : Cx} {ro : Option Nat} {nt : Nat} {c : Code} {env env' : Env} {σ σ1 σ' : Sto} {e : Exit} (hl : σ.le σ1) (h : CodeS C ro nt c env σ1 e env' σ') : CodeS C ro nt c env σ e env' σ' :=
  fun w0 G a w hr cr hcr => wpIn_mono (h w0 G a w ⟨hr.inv.forget hl, hr.env⟩ cr hcr) fun e2 a' w' hp => by
    obtain ⟨h1, G', ms, h2, h3, h4⟩ := hp
    exact ⟨h1, G', ms, h2, (Ext.forget hl).trans h3, h4⟩
theorem codeS_postS {C : Cx} {ro : Option Nat} {nt : Nat} {c : Code} {env env' : Env} {σ σ1 σ' : Sto} {e : Exit} (h : CodeS C ro nt c env σ e env' σ1) (hl : σ1.le σ') : CodeS C ro nt c env σ e env' σ' :=
  fun w0 G a w hr cr hcr => wpIn_mono (h w0 G a w hr cr hcr) fun e2 a' w' hp => by
    obtain ⟨h1, G', ms, h2, h3, h4, h5⟩ := hp
    exact ⟨h1, G', ms, ⟨h2.inv.forget hl, h2.env⟩, h3.trans (Ext.forget hl), h4, h5.ext (Ext.forget hl)⟩
theorem CallS.forget {C : Cx} {f : FuncId} {args : List AV} {σ σ1 σ' : Sto} {r : AV} (h : CallS C f args σ r σ1) (hl : σ1.le σ') : CallS C f args σ r σ' :=
  fun w0 G w V hi hV hrep => (h w0 G w V hi hV hrep).mono fun e w' hp => by
    obtain ⟨G', v, h1, h2, h3, h4⟩ := hp
    exact ⟨G', v, h1, h2, h3.forget hl, h4.trans (Ext.forget hl)⟩
def resA (C : Cx) (nt : Nat) (env : Env) (σ : Sto) : ResultVar → AV
  | .tmp t => ev C nt env (.tmp t)
  | .cell a t =>
    match ev C nt env (.tmp a), C.ty t with
    | .ptr id k, some i => rdC i (boxCells σ id) k
    | _, _ => .undef
def resOK (C : Cx) (nt : Nat) (env : Env) (σ : Sto) : ResultVar → Prop
  | .tmp _ => True
  | .cell a t => ∃ id k i cs, ev C nt env (.tmp a) = .ptr id k ∧ C.ty t = some i ∧ σ.get id = some (.box cs) ∧ rdOK i cs k
def oneOr (xs : List AV) : AV := match xs with | [x] => x | xs => .tup xs
def resSem (tmps : Array Value) (r : ResultVar) : Sem Value :=
  match r with
  | .tmp t => pure (tmps.getD t undef)
  | .cell a t => do loadVar t (← asAddr (tmps.getD a undef))
theorem results_eq (fn : Func) (tmps : Array Value) : results fn tmps = (do let vs ← fn.results.mapM (resSem tmps); pure (if h : vs.size = 1 then vs[0] else .tuple vs)) := rfl
theorem run_results {C : Cx} {w0 : World} {G : Gh} {nt : Nat} {env : Env} {σ : Sto} {a : Act} {w : World} (fn : Func) (hi : Inv C.gl w0 G σ w) (he : EnvRep G nt env a.tmps) (hok : ∀ r ∈ fn.results.toList, resOK C nt env σ r) :
    ∃ v, (results fn a.tmps).run C.P w = .ok v w ∧ Rep G (oneOr (fn.results.toList.map (resA C nt env σ))) v := by
  have each : ∀ r : ResultVar, resOK C nt env σ r → ∃ v, (resSem a.tmps r).run C.P w = .ok v w ∧ Rep G (resA C nt env σ r) v := by
    intro r hr
    cases r with
    | tmp t => exact ⟨_, rfl, he.ev (C := C) (a := a) hi (.tmp t)⟩
    | cell p t =>
      obtain ⟨id, k, i, cs, h1, h2, h3, h4⟩ := hr
      have hp := he.ev (C := C) (a := a) hi (.tmp p)
      rw [h1] at hp
      simp only [Act.eval] at hp
      cases hv : a.tmps.getD p undef with
      | pointer ad =>
        rw [hv] at hp
        cases hp with
        | ptr _ _ B hj =>
          obtain ⟨_, vs, ty, g1, g2, g3, g4⟩ := hi.obj id _ B h3 hj
          obtain ⟨v, e1, e2⟩ := run_loadVar_rd (C := C) h2 (G := G) (w := w) (cells := cs) (b := B.b) (o := 0) (k := k) (fun j c hj' => by
            obtain ⟨v, hv', hr'⟩ := g3 j c hj'
            exact ⟨v, by rw [cell_at g1]; simpa using hv', hr'⟩) h4
          rw [Nat.zero_add] at e1
          refine ⟨v, by simp only [resSem, hv, asAddr, Sem.run_bind, Sem.run_pure, Result.andThen_ok, e1], ?_⟩
          have hb : boxCells σ id = cs := by simp [boxCells, h3]
          simp only [resA, h1, h2, hb]
          exact e2
      | _ => rw [hv] at hp; cases hp
  have all : ∀ rs : List ResultVar, (∀ r ∈ rs, resOK C nt env σ r) → ∃ vs : List Value, (rs.mapM (resSem a.tmps)).run C.P w = .ok vs w ∧
      vs.length = rs.length ∧ ∀ (i : Nat) (x : AV) (v : Value), (rs.map (resA C nt env σ))[i]? = some x → vs[i]? = some v → Rep G x v := by
    intro rs
    induction rs with
    | nil => intro _; exact ⟨[], by simp, rfl, fun i x v h => by simp at h⟩
    | cons r rs ih =>
      intro h
      obtain ⟨v, h1, h2⟩ := each r (h r (by simp))
      obtain ⟨vs, h3, h4, h5⟩ := ih fun r hr => h r (by simp [hr])
      refine ⟨v :: vs, by simp only [List.mapM_cons, Sem.run_bind, h1, Result.andThen_ok, h3, Sem.run_pure], by simp [h4], fun i x u hx hu => ?_⟩
      cases i with
      | zero => simp at hx hu; subst hx; subst hu; exact h2
      | succ i => simp only [List.map_cons, List.getElem?_cons_succ] at hx hu; exact h5 i x u hx hu
  obtain ⟨vs, h1, h2, h3⟩ := all fn.results.toList hok
  have hrun : (results fn a.tmps).run C.P w = .ok (if h : vs.toArray.size = 1 then vs.toArray[0] else .tuple vs.toArray) w := by
    rw [results_eq, Array.mapM_eq_mapM_toList]
    simp only [Sem.run_bind, Sem.run_map, h1, Result.andThen_ok, Sem.run_pure]
  refine ⟨_, hrun, ?_⟩
  generalize hvs : vs = us at h2 h3 ⊢
  match us, hm : fn.results.toList.map (resA C nt env σ), h2 with
  | [v], [x], _ => exact h3 0 x v (by rw [hm]; rfl) rfl
  | [], [], _ => exact .tup [] #[] rfl fun i c v h _ => by simp at h
  | v :: v2 :: vs', x :: x2 :: xs', hl =>
    simp only [oneOr]
    rw [dif_neg (by simp)]
    rw [hm] at h3
    have hl2 : (x :: x2 :: xs').length = (v :: v2 :: vs').length := by rw [← hm, List.length_map, hl]
    exact .tup _ _ (by simp at hl2 ⊢; omega) fun i c u hc hu => h3 i c u hc (by simpa using hu)
  | [], x :: xs', hl => rw [← List.length_map (f := resA C nt env σ), hm] at hl; simp at hl
  | [v], [], hl => rw [← List.length_map (f := resA C nt env σ), hm] at hl; simp at hl
  | [v], x :: x2 :: xs', hl => rw [← List.length_map (f := resA C nt env σ), hm] at hl; simp at hl
  | v :: v2 :: vs', [], hl => rw [← List.length_map (f := resA C nt env σ), hm] at hl; simp at hl
  | v :: v2 :: vs', [x], hl => rw [← List.length_map (f := resA C nt env σ), hm] at hl; simp at hl
theorem Inv.put {gl : Nat → List AV} {w0 w : World} {G : Gh} {σ : Sto} (h : Inv gl w0 G σ w) {r : Nat} {ob : Obj} (ob' : Obj) (hr : w.heap[r]? = some ob) (hnc : ∀ c t f, ob ≠ .cells c t f) (hn : ¬ Own G σ r) (hb : w0.heap.size ≤ r) : Inv gl w0 G σ (w.putObj r ob') where
  below := h.below.trans ⟨rfl, rfl, rfl, by simp, fun k hk => World.putObj_heap_other (by omega)⟩
  imm := fun b o v hv => by
    have hc := h.imm b o v hv
    have hne : b ≠ r := by
      rintro rfl
      simp only [World.cell?, hr] at hc
      cases ob <;> first | exact hnc _ _ _ rfl | cases hc
    exact (World.cell?_of_block (w := w) (a := ⟨b, o, none⟩) (World.putObj_heap_other hne)).trans hc
  gl := h.gl
  live := h.live
  obj := fun id o B h1 h2 => by
    have hne : B.b ≠ r := fun e => hn (.inl ⟨id, o, B, h1, h2, e⟩)
    exact ⟨(h.obj id o B h1 h2).1, (h.obj id o B h1 h2).2.keep (.refl G) (World.putObj_heap_other hne) fun _ => rfl⟩
  fresh := h.fresh
  inj := h.inj
  has := h.has
  freshT := h.freshT
  tok := h.tok.step rfl (fun _ _ _ x => x) (fun id b hbt => ⟨World.putObj_heap_other (fun e => hn (.inr ⟨id, e ▸ hbt⟩)), fun _ => rfl⟩) h.tok.oj
theorem Ext.put {w : World} {G : Gh} {σ : Sto} {r : Nat} (ob' : Obj) : ∀ b, b < w.heap.size → b ≠ r → ¬ Own G σ b → (w.putObj r ob').heap[b]? = w.heap[b]? := fun b _ hb _ => World.putObj_heap_other hb
theorem leaves_marks {C : Cx} {fn : Func} {tmps : Array Value} {R : Ending → World → Prop} {w0 : World} {G0 G : Gh} {σ0 σ : Sto} {we : World} (hbs : w0.heap.size ≤ we.heap.size) : ∀ (ms : List Nat) (w : World), Inv C.gl w0 G σ w → Ext G0 σ0 we G σ w → Marks G σ w we.heap.size ms →
    (∀ w', Inv C.gl w0 G σ w' → Ext G0 σ0 we G σ w' → ∃ v, (results fn tmps).run C.P w' = .ok v w' ∧ R (.returned v) w') → LeavesInM Fence.wide 0 C.P fn tmps R (ms.map mk) .returning w
  | [], w, hi, he, hm, hk => by
    simp only [List.map_nil, LeavesInM, LeavesIn]
    exact hk w hi he
  | r :: ms, w, hi, he, hm, hk => by
    obtain ⟨h1, h2, h3⟩ := hm.ok r (by simp)
    have hbase : w0.heap.size ≤ r := Nat.le_trans hbs h1
    refine ⟨by simp, .inl ⟨r, _, rfl, run_takeDeferred h2, ?_⟩⟩
    have hi' := hi.put (.deferred none) h2 (fun _ _ _ h => by cases h) h3 hbase
    refine leaves_marks hbs ms _ hi' ⟨he.le, by simpa using he.size, fun b hb ho => ?_, he.next⟩ ⟨(List.nodup_cons.1 hm.nd).2, fun r' hr' => ?_⟩ hk
    · obtain ⟨k1, k2, k3⟩ := he.keep b hb ho
      exact ⟨(World.putObj_heap_other (by omega)).trans k1, k2, k3⟩
    · obtain ⟨g1, g2, g3⟩ := hm.ok r' (by simp [hr'])
      have hne : r' ≠ r := by rintro rfl; exact (List.nodup_cons.1 hm.nd).1 hr'
      exact ⟨g1, (World.putObj_heap_other hne).trans g2, g3⟩
def env0 (args : List AV) : Env := fun t => args.getD t .undef
theorem callS_of_body {C : Cx} {f : FuncId} {fn : Func} {c : Code} {args : List AV} {σ σ' : Sto} {env' : Env} {e : Exit} (hb : Body C.P f fn c) (hl : args.length ≤ fn.ntmps)
    (h : CodeS C none fn.ntmps c (env0 args) σ e env' σ') (he : e = .normal ∨ e = .ret) (hr : ∀ r ∈ fn.results.toList, resOK C fn.ntmps env' σ' r) :
    CallS C f args σ (oneOr (fn.results.toList.map (resA C fn.ntmps env' σ'))) σ' := by
  intro w0 G w V hi hV hrep
  have hbody := h w0 G { tmps := V ++ Array.replicate (fn.ntmps - V.size) undef, defers := [] } w ⟨hi, by simp; omega, fun t ht => by
    simp only [env0]
    by_cases hlt : t < args.length
    · have h1 : args.getD t .undef = args[t] := by rw [List.getD_eq_getElem?_getD, List.getElem?_eq_getElem hlt]; rfl
      have h2 : (V ++ Array.replicate (fn.ntmps - V.size) undef).getD t undef = V[t]'(by omega) := by
        rw [Array.getD_eq_getD_getElem?, Array.getElem?_append, if_pos (by omega), Array.getElem?_eq_getElem (by omega)]; rfl
      rw [h1, h2]
      exact hrep t _ _ (List.getElem?_eq_getElem hlt) (Array.getElem?_eq_getElem (by omega))
    · have : args.getD t .undef = .undef := by rw [List.getD_eq_getElem?_getD, List.getElem?_eq_none (by omega)]; rfl
      rw [this]; exact .undef _⟩ none trivial
  refine callsIn_of_wp_marks hb.here hb.body trivial (wpIn_mono hbody ?_)
  rintro e2 a' w' ⟨rfl, G', ms, h1, h2, h3, h4⟩
  have hms : a'.defers = ms.map mk := by rw [h3]; simp
  have key : LeavesInM Fence.wide 0 C.P fn a'.tmps (fun e w' => ∃ G' v, e = .returned v ∧ Rep G' (oneOr (fn.results.toList.map (resA C fn.ntmps env' σ'))) v ∧ Inv C.gl w0 G' σ' w' ∧ Ext G σ w G' σ' w') a'.defers .returning w' := by
    rw [hms]
    refine leaves_marks hi.base_le ms w' h1.inv h2 h4 fun w2 hi2 he2 => ?_
    obtain ⟨v, g1, g2⟩ := run_results (a := a') fn hi2 h1.env hr
    exact ⟨v, g1, G', v, rfl, g2, hi2, he2⟩
  rcases he with rfl | rfl <;> exact key
end Go.Lg
/- Lg, part H2: interface values compared with nil, type assertions, bytes to a text. -/
namespace Go.Lg
open Go.RowKit
variable {C : Cx} {ρ : Operand → AV} {σ : Sto} {o : Oper}
theorem run_equal_nili {t : TypeId} {ti : TyI} {ms} (ht : C.ty t = some ti) (hd : ti.desc = .interface ms) (w : World) : (Op.equal t .nilIface .nilIface).run C.P w = .ok true w := by
  have e : Op.equal t .nilIface .nilIface = Op.equalIn (9999 + 1) t .nilIface .nilIface := rfl
  rw [e]
  generalize 9999 = d
  simp only [Op.equalIn, Sem.run_bind, C.run_und ht, Result.andThen_ok, hd, Sem.run_pure]
theorem run_equal_iface {t t2 : TypeId} {ti : TyI} {ms} {v : Value} (ht : C.ty t = some ti) (hd : ti.desc = .interface ms) (w : World) : (Op.equal t (.iface t2 v) .nilIface).run C.P w = .ok false w := by
  have e : Op.equal t (.iface t2 v) .nilIface = Op.equalIn (9999 + 1) t (.iface t2 v) .nilIface := rfl
  rw [e]
  generalize 9999 = d
  simp only [Op.equalIn, Sem.run_bind, C.run_und ht, Result.andThen_ok, hd, Sem.run_pure]
theorem run_eqGuard_nili {p : Prop} [Decidable p] {t : TypeId} {ti : TyI} {ms} (ht : C.ty t = some ti) (hd : ti.desc = .interface ms) (hms : ms.isEmpty = true) (w : World) (u : Sem Unit) :
    (if p then pure () else (do if ← Op.eqGuardIn Op.maxDepth t .nilIface .nilIface then u else pure ()) : Sem Unit).run C.P w = .ok () w := by
  split
  · rw [Sem.run_pure]
  · have e : Op.eqGuardIn Op.maxDepth t .nilIface .nilIface = Op.eqGuardIn (9999 + 1) t .nilIface .nilIface := rfl
    rw [e]
    generalize 9999 = d
    simp only [Op.eqGuardIn, Sem.run_bind, C.run_und ht, Result.andThen_ok, hd, Sem.run_pure, hms, Bool.not_true, Bool.false_eq_true, if_false]
theorem run_eqGuard_iface {p : Prop} [Decidable p] {t t2 : TypeId} {ti : TyI} {ms} {v : Value} (ht : C.ty t = some ti) (hd : ti.desc = .interface ms) (w : World) (u : Sem Unit) :
    (if p then pure () else (do if ← Op.eqGuardIn Op.maxDepth t (.iface t2 v) .nilIface then u else pure ()) : Sem Unit).run C.P w = .ok () w := by
  split
  · rw [Sem.run_pure]
  · have e : Op.eqGuardIn Op.maxDepth t (.iface t2 v) .nilIface = Op.eqGuardIn (9999 + 1) t (.iface t2 v) .nilIface := rfl
    rw [e]
    generalize 9999 = d
    simp only [Op.eqGuardIn, Sem.run_bind, C.run_und ht, Result.andThen_ok, hd, Sem.run_pure, Bool.false_eq_true, if_false]
theorem snd_bin_nili {op : BinOp} {t t' : TypeId} {ti : TyI} {ms} {x y : Operand} (ht : C.ty t = some ti) (hd : ti.desc = .interface ms) (hms : ms.isEmpty = true) (ho : o.op = .binOp op t x y t') (hx : ρ x = .nili) (hy : ρ y = .nili) :
    Snd C o ρ σ ⟨op = .eql ∨ op = .neq, .bool (if op = .eql then true else false), σ⟩ :=
  snd_pure fun hc w0 G a w hi hr => by
    have e1 := hr x (by simp [ho, Op.operands])
    rw [hx] at e1
    generalize h1 : a.eval x = X at e1
    have e2 := hr y (by simp [ho, Op.operands])
    rw [hy] at e2
    generalize h2 : a.eval y = Y at e2
    cases e1; cases e2
    rcases hc with rfl | rfl
    · exact ⟨.bool true, by simp only [execOp, ho, h1, h2, eqGuard, binOp, Sem.run_bind, Sem.run_pure, run_equal_nili ht hd, run_eqGuard_nili ht hd hms, Result.andThen_ok, Bool.not_true, Bool.false_eq_true, if_true, if_false], .bool _⟩
    · exact ⟨.bool false, by simp only [execOp, ho, h1, h2, eqGuard, binOp, Sem.run_bind, Sem.run_pure, run_equal_nili ht hd, run_eqGuard_nili ht hd hms, Result.andThen_ok, Bool.not_true, Bool.false_eq_true, if_true, if_false], .bool _⟩
theorem snd_bin_iface {op : BinOp} {t t' t2 : TypeId} {ti : TyI} {ms} {x y : Operand} {v : AV} (ht : C.ty t = some ti) (hd : ti.desc = .interface ms) (ho : o.op = .binOp op t x y t') (hx : ρ x = .iface t2 v) (hy : ρ y = .nili) :
    Snd C o ρ σ ⟨op = .eql ∨ op = .neq, .bool (if op = .eql then false else true), σ⟩ :=
  snd_pure fun hc w0 G a w hi hr => by
    have e1 := hr x (by simp [ho, Op.operands])
    rw [hx] at e1
    generalize h1 : a.eval x = X at e1
    have e2 := hr y (by simp [ho, Op.operands])
    rw [hy] at e2
    generalize h2 : a.eval y = Y at e2
    cases e1; cases e2
    rcases hc with rfl | rfl
    · exact ⟨.bool false, by simp only [execOp, ho, h1, h2, eqGuard, binOp, Sem.run_bind, Sem.run_pure, run_equal_iface ht hd, run_eqGuard_iface ht hd, Result.andThen_ok, Bool.not_true, Bool.false_eq_true, if_true, if_false], .bool _⟩
    · exact ⟨.bool true, by simp only [execOp, ho, h1, h2, eqGuard, binOp, Sem.run_bind, Sem.run_pure, run_equal_iface ht hd, run_eqGuard_iface ht hd, Result.andThen_ok, Bool.not_true, Bool.false_eq_true, if_true, if_false]; rfl, .bool _⟩
theorem snd_typeAssert {t t' : TypeId} {ti : TyI} {x : Operand} {v : AV} (ht : C.ty t = some ti) (ho : o.op = .typeAssert x t' t true) (hx : ρ x = .iface t v) :
    Snd C o ρ σ ⟨∀ ms, ti.desc ≠ .interface ms, .tup [v, .bool true], σ⟩ :=
  snd_pure fun hc w0 G a w hi hr => by
    have e1 := hr x (by simp [ho, Op.operands])
    rw [hx] at e1
    generalize h1 : a.eval x = X at e1
    cases e1 with
    | iface _ _ V hv =>
    refine ⟨.tuple #[V, .bool true], ?_, .tup _ _ rfl fun i c u hc hu => ?_⟩
    · simp only [execOp, ho, h1, Instr.typeAssert, Sem.run_bind, C.run_und ht, Result.andThen_ok]
      cases h : ti.desc with
      | interface ms => exact absurd h (hc ms)
      | _ => simp
    · match i, hc, hu with
      | 0, hc, hu => simp at hc hu; subst hc; subst hu; exact hv
      | 1, hc, hu => simp at hc hu; subst hc; subst hu; exact .bool _
      | i + 2, hc, hu => simp at hc
def AV.isU8 : AV → Bool
  | .int .u8 _ => true
  | _ => false
theorem AV.isU8_eq {x : AV} (h : x.isU8 = true) : x = .int .u8 x.theI := by
  unfold AV.isU8 at h
  split at h
  · rfl
  · cases h
def byA (xs : List AV) : ByteArray := (xs.map AV.theI).foldl (fun r n => r.push (UInt8.ofNat n.toNat)) ByteArray.empty
theorem flat_u8 : ∀ {xs : List AV}, xs.all AV.isU8 = true → flat xs = xs
  | [], _ => rfl
  | x :: xs, h => by
    simp only [List.all_cons, Bool.and_eq_true] at h
    have e := AV.isU8_eq h.1
    rw [e]
    show (AV.int .u8 x.theI).cells ++ flat xs = _
    rw [flat_u8 h.2]; rfl
theorem snd_bytes {src dst e : TypeId} {si di ei : TyI} {x : Operand} {f : Bool} {xs : List AV} (hs : C.ty src = some si) (hse : si.desc = .slice e) (he : C.ty e = some ei) (hu : ei.desc = .int .u8) (hd : C.ty dst = some di) (hq : di.desc = .string)
    (ho : o.op = .convert src dst x) (hx : ρ x = .list f xs) : Snd C o ρ σ ⟨xs.all AV.isU8 = true, .str (byA xs), σ⟩ :=
  snd_pure fun hc w0 G a w hi hr => by
    have e1 := hr x (by simp [ho, Op.operands])
    rw [hx] at e1
    generalize h1 : a.eval x = X at e1
    have hel : ∀ y ∈ xs, y.cells.length = 1 := fun y hy => by rw [AV.isU8_eq (List.all_eq_true.1 hc y hy)]; rfl
    have hone : ∀ y ∈ xs, y.cells.all AV.one = true := fun y hy => by rw [AV.isU8_eq (List.all_eq_true.1 hc y hy)]; rfl
    refine ⟨.string (byA xs), ?_, .str _⟩
    have key : (Conv.bytesToString X).run C.P w = .ok (.string (byA xs)) w := by
      cases X with
      | slice ad len cap =>
        obtain ⟨news, n1, n2, n3⟩ := list_cells e1 hel hone
        rw [flat_u8 hc] at n1
        have hl : len = xs.length := by cases e1 <;> first | rfl | (symm; assumption)
        have hnews : news = (xs.map AV.theI).map (Value.int .u8) := by
          apply List.ext_getElem?
          intro i
          have hsz : news.length = xs.length := by simpa using n1.1
          by_cases hi2 : i < xs.length
          · obtain ⟨v, hv, hrep⟩ := n1.2 i xs[i] (List.getElem?_eq_getElem hi2)
            have hv : news[i]? = some v := by simpa using hv
            rw [AV.isU8_eq (List.all_eq_true.1 hc _ (List.getElem_mem hi2))] at hrep
            cases hrep
            rw [hv]; simp [hi2]
          · rw [List.getElem?_eq_none (by omega), List.getElem?_eq_none (by simp; omega)]
        cases ad with
        | none =>
          have : news = [] := by
            cases hn : news with
            | nil => rfl
            | cons v vs => obtain ⟨b, o', hb, _⟩ := n3 0 v (by simp [hn]); cases hb
          have hx0 : xs = [] := by
            rw [this] at hnews
            cases xs with
            | nil => rfl
            | cons y ys => simp at hnews
          subst hx0
          simp [Conv.bytesToString, Sem.run_pure, byA]
        | some ad =>
          have hlc : (loadCells ad len).run C.P w = .ok ((xs.map AV.theI).map (Value.int .u8)).toArray w := by
            have := run_loadCells_list (P := C.P) w ad news fun j v hj => by
              obtain ⟨b, o', hb, hI⟩ := n3 j v hj
              cases hb
              rw [add_at]
              exact hi.imm _ _ _ hI
            have hsz : news.length = len := by rw [hl]; simpa using n1.1
            rw [hsz, hnews] at this
            exact this
          exact run_bytesToString w ad len cap _ hlc
      | _ => cases e1
    have hX : ∃ ad len cap, X = .slice ad len cap := by
      cases X with
      | slice ad len cap => exact ⟨_, _, _, rfl⟩
      | _ => cases e1
    obtain ⟨ad, len, cap, rfl⟩ := hX
    cases ad with
    | none => simp only [execOp, ho, h1, convert, Sem.run_bind, C.run_und hs, C.run_und hd, C.run_und he, hse, hq, hu, Result.andThen_ok, key, Sem.run_pure]
    | some ad => simp only [execOp, ho, h1, convert, Sem.run_bind, C.run_und hs, C.run_und hd, C.run_und he, hse, hq, hu, Result.andThen_ok, key, Sem.run_pure]
end Go.Lg
/- Lg, part H3: maps with plain keys. -/
namespace Go.Lg
open Go.RowKit
theorem Rep.pv1 {G : Gh} {a : AV} {v u : Value} (h : Rep G a v) (hp : a.pv1 = some u) : v = u := by
  cases h <;> simp [AV.pv1] at hp <;> exact hp
theorem pvL_get : ∀ {l : List AV} {vs : List Value}, AV.pvL l = some vs → vs.length = l.length ∧ ∀ (i : Nat) (c : AV), l[i]? = some c → ∃ u, vs[i]? = some u ∧ c.pv1 = some u
  | [], vs, h => by simp only [AV.pvL, Option.some.injEq] at h; subst h; exact ⟨rfl, fun i c hc => by simp at hc⟩
  | a :: l, vs, h => by
    simp only [AV.pvL] at h
    split at h
    · rename_i v vs' h1 h2
      simp only [Option.some.injEq] at h; subst h
      obtain ⟨k1, k2⟩ := pvL_get h2
      refine ⟨by simp [k1], fun i c hc => ?_⟩
      cases i with
      | zero => simp only [List.getElem?_cons_zero, Option.some.injEq] at hc; subst hc; exact ⟨v, rfl, h1⟩
      | succ i => exact k2 i c (by simpa using hc)
    · cases h
theorem Rep.pv {G : Gh} {a : AV} {v u : Value} (h : Rep G a v) (hp : a.pv = some u) : v = u := by
  cases h with
  | agg cs vs hl hv =>
    simp only [AV.pv, Option.map_eq_some_iff] at hp
    obtain ⟨us, h1, rfl⟩ := hp
    obtain ⟨k1, k2⟩ := pvL_get h1
    congr 1
    refine Array.ext (by simp [hl, k1]) fun i hi hi' => ?_
    have hi2 : i < cs.length := by omega
    obtain ⟨u, g1, g2⟩ := k2 i _ (List.getElem?_eq_getElem hi2)
    have := (hv i _ vs[i] (List.getElem?_eq_getElem hi2) (Array.getElem?_eq_getElem hi)).pv1 g2
    rw [this]
    rw [List.getElem?_eq_some_iff] at g1
    obtain ⟨_, g1⟩ := g1
    simp [g1]
  | bool b => simpa [AV.pv, AV.pv1] using hp
  | int k n => simpa [AV.pv, AV.pv1] using hp
  | str s => simpa [AV.pv, AV.pv1] using hp
  | _ => simp [AV.pv, AV.pv1] at hp
def AV.shp1 : AV → AV
  | .bool _ => .bool false
  | .int k _ => .int k 0
  | .str _ => .str ByteArray.empty
  | _ => .undef
def AV.shp : AV → AV
  | .agg cs => .agg (cs.map AV.shp1)
  | a => a.shp1
def peq1 : AV → AV → Bool
  | .bool a, .bool b => a == b
  | .int _ a, .int _ b => a == b
  | .str a, .str b => a == b
  | _, _ => false
def peqL : List AV → List AV → Bool
  | [], [] => true
  | a :: l, b :: l' => peq1 a b && peqL l l'
  | _, _ => false
def AV.peq : AV → AV → Bool
  | .agg xs, .agg ys => peqL xs ys
  | a, b => peq1 a b
theorem ba_beq {a b : ByteArray} : (a == b) = true ↔ a = b := by
  obtain ⟨x⟩ := a
  obtain ⟨y⟩ := b
  show (x == y) = true ↔ _
  simp
theorem peq1_eq {a b : AV} {v u : Value} (hs : a.shp1 = b.shp1) (ha : a.pv1 = some v) (hb : b.pv1 = some u) (h : peq1 a b = true) : v = u := by
  cases a <;> simp [AV.pv1] at ha <;> cases b <;> simp [AV.pv1, peq1, AV.shp1] at * <;> subst ha <;> subst hb
  · rw [h]
  · rw [h, hs]
  · rw [ba_beq.1 h]
theorem peqL_eq : ∀ {l l' : List AV} {vs us : List Value}, l.map AV.shp1 = l'.map AV.shp1 → AV.pvL l = some vs → AV.pvL l' = some us → peqL l l' = true → vs = us
  | [], [], vs, us, _, h1, h2, _ => by simp only [AV.pvL, Option.some.injEq] at h1 h2; rw [← h1, ← h2]
  | [], _ :: _, _, _, hs, _, _, _ => by simp at hs
  | _ :: _, [], _, _, hs, _, _, _ => by simp at hs
  | a :: l, b :: l', vs, us, hs, h1, h2, h => by
    simp only [List.map_cons, List.cons.injEq] at hs
    simp only [peqL, Bool.and_eq_true] at h
    simp only [AV.pvL] at h1 h2
    split at h1
    · rename_i v vs' g1 g2
      split at h2
      · rename_i u us' k1 k2
        simp only [Option.some.injEq] at h1 h2
        rw [← h1, ← h2, peq1_eq hs.1 g1 k1 h.1, peqL_eq hs.2 g2 k2 h.2]
      · cases h2
    · cases h1
theorem peq_eq {a b : AV} {v u : Value} (hs : a.shp = b.shp) (ha : a.pv = some v) (hb : b.pv = some u) (h : a.peq b = true) : v = u := by
  cases a <;> cases b <;> first
    | (simp [AV.pv, AV.pv1] at ha; done)
    | (simp [AV.pv, AV.pv1] at hb; done)
    | (simp [AV.shp, AV.shp1] at hs; done)
    | exact peq1_eq (a := .bool _) (b := .bool _) hs ha hb h
    | exact peq1_eq (a := .int _ _) (b := .int _ _) hs ha hb h
    | exact peq1_eq (a := .str _) (b := .str _) hs ha hb h
    | skip
  · simp only [AV.shp, AV.agg.injEq] at hs
    simp only [AV.pv, Option.map_eq_some_iff] at ha hb
    obtain ⟨l, h1, rfl⟩ := ha
    obtain ⟨l', h2, rfl⟩ := hb
    rw [peqL_eq hs h1 h2 h]
structure KeyOK (C : Cx) (t : TypeId) (s : AV) : Prop where
  now : ∃ d, C.P.underlying t = some d ∧ ((∀ a b v u, AV.shp a = s → AV.shp b = s → a.pv = some v → b.pv = some u → Instr.sameNow d v u = some (a.peq b)) ∨
    (∀ a b v u, AV.shp a = s → AV.shp b = s → a.pv = some v → b.pv = some u → Instr.sameNow d v u = none))
  chk : ∀ e a v w, AV.shp a = s → a.pv = some v → (Instr.checkKey e 10000 t v).run C.P w = .ok () w
  eq : ∀ a b v u w, AV.shp a = s → AV.shp b = s → a.pv = some v → b.pv = some u → (Op.equal t v u).run C.P w = .ok (a.peq b) w
def mfind (k : AV) : List (AV × AV) → Option Nat
  | [] => none
  | e :: es => if k.peq e.1 = true then some 0 else (mfind k es).map (· + 1)
def mget (k : AV) : List (AV × AV) → Option AV
  | [] => none
  | e :: es => if k.peq e.1 = true then some e.2 else mget k es
def mput (k v : AV) : List (AV × AV) → List (AV × AV)
  | [] => [(k, v)]
  | e :: es => if k.peq e.1 = true then (k, v) :: es else e :: mput k v es
theorem mfind_lt {k : AV} : ∀ {es : List (AV × AV)} {j : Nat}, mfind k es = some j → j < es.length ∧ mget k es = (es[j]?).map (·.2) ∧ (∀ v, mput k v es = es.set j (k, v)) ∧ ∃ e, es[j]? = some e ∧ k.peq e.1 = true
  | [], j, h => by cases h
  | e :: es, j, h => by
    simp only [mfind] at h
    by_cases hp : k.peq e.1 = true
    · simp only [hp, if_true, Option.some.injEq] at h; subst h
      simp [mget, mput, hp]
    · rw [if_neg hp, Option.map_eq_some_iff] at h
      obtain ⟨j', h1, rfl⟩ := h
      obtain ⟨k1, k2, k3, k4⟩ := mfind_lt h1
      simp only [Bool.not_eq_true] at hp
      refine ⟨by simp; omega, by simp [mget, hp, k2], fun v => by simp [mput, hp, k3], by simpa using k4⟩
theorem mfind_none {k : AV} : ∀ {es : List (AV × AV)}, mfind k es = none → mget k es = none ∧ ∀ v, mput k v es = es ++ [(k, v)]
  | [], h => ⟨rfl, fun v => rfl⟩
  | e :: es, h => by
    simp only [mfind] at h
    by_cases hp : k.peq e.1 = true
    · simp [hp] at h
    · rw [if_neg hp, Option.map_eq_none_iff] at h
      obtain ⟨k2, k3⟩ := mfind_none h
      simp only [Bool.not_eq_true] at hp
      exact ⟨by simp [mget, hp, k2], fun v => by simp [mput, hp, k3]⟩
section
variable {C : Cx} {t : TypeId} {s : AV}
theorem find_now {d : TypeDesc} (hd : ∀ a b v u, AV.shp a = s → AV.shp b = s → a.pv = some v → b.pv = some u → Instr.sameNow d v u = some (a.peq b)) {k : AV} {kv : Value} (hk : k.shp = s) (hkv : k.pv = some kv) :
    ∀ (es : List (AV × AV)) (xs : List MapEntry) (n : Nat), xs.length = es.length → (∀ (i : Nat) (e : AV × AV), es[i]? = some e → e.1.shp = s ∧ ∃ m, xs[i]? = some m ∧ e.1.pv = some m.key) →
      Instr.findNow d kv xs n = some ((mfind k es).map fun j => (n + j, ((xs[j]?).getD default).val))
  | [], [], n, _, _ => rfl
  | [], _ :: _, _, h, _ => by simp at h
  | _ :: _, [], _, h, _ => by simp at h
  | e :: es, x :: xs, n, hl, h => by
    obtain ⟨h1, m, h2, h3⟩ := h 0 e rfl
    simp only [List.getElem?_cons_zero, Option.some.injEq] at h2; subst h2
    have ih := find_now hd hk hkv es xs (n + 1) (by simpa using hl) (fun i e he => h (i + 1) e (by simpa using he))
    simp only [Instr.findNow, hd k e.1 kv x.key hk h1 hkv h3, mfind]
    by_cases hp : k.peq e.1 = true
    · simp [hp]
    · simp only [Bool.not_eq_true] at hp
      simp only [hp, ih, Bool.false_eq_true, if_false, Option.map_map, Option.some.injEq]
      congr 1
      funext j
      simp; omega
theorem find_none {d : TypeDesc} (hd : ∀ a b v u, AV.shp a = s → AV.shp b = s → a.pv = some v → b.pv = some u → Instr.sameNow d v u = none) {k : AV} {kv : Value} (hk : k.shp = s) (hkv : k.pv = some kv) :
    ∀ (es : List (AV × AV)) (xs : List MapEntry) (n : Nat), xs.length = es.length → (∀ (i : Nat) (e : AV × AV), es[i]? = some e → e.1.shp = s ∧ ∃ m, xs[i]? = some m ∧ e.1.pv = some m.key) →
      Instr.findNow d kv xs n = if es = [] then some none else none
  | [], [], n, _, _ => rfl
  | [], _ :: _, _, h, _ => by simp at h
  | _ :: _, [], _, h, _ => by simp at h
  | e :: es, x :: xs, n, hl, h => by
    obtain ⟨h1, m, h2, h3⟩ := h 0 e rfl
    simp only [List.getElem?_cons_zero, Option.some.injEq] at h2; subst h2
    simp only [Instr.findNow, hd k e.1 kv x.key hk h1 hkv h3, reduceCtorEq, if_false]
theorem find_asking (K : KeyOK C t s) {k : AV} {kv : Value} (hk : k.shp = s) (hkv : k.pv = some kv) (w : World) :
    ∀ (es : List (AV × AV)) (xs : List MapEntry) (n : Nat), xs.length = es.length → (∀ (i : Nat) (e : AV × AV), es[i]? = some e → e.1.shp = s ∧ ∃ m, xs[i]? = some m ∧ e.1.pv = some m.key) →
      (Instr.findAsking t kv xs n).run C.P w = .ok ((mfind k es).map fun j => (n + j, ((xs[j]?).getD default).val)) w
  | [], [], n, _, _ => rfl
  | [], _ :: _, _, h, _ => by simp at h
  | _ :: _, [], _, h, _ => by simp at h
  | e :: es, x :: xs, n, hl, h => by
    obtain ⟨h1, m, h2, h3⟩ := h 0 e rfl
    simp only [List.getElem?_cons_zero, Option.some.injEq] at h2; subst h2
    have ih := find_asking K hk hkv w es xs (n + 1) (by simpa using hl) (fun i e he => h (i + 1) e (by simpa using he))
    simp only [Instr.findAsking, Sem.run_bind, K.eq k e.1 kv x.key w hk h1 hkv h3, Result.andThen_ok, mfind]
    by_cases hp : k.peq e.1 = true
    · simp [hp]
    · simp only [Bool.not_eq_true] at hp
      simp only [hp, ih, Bool.false_eq_true, if_false, Option.map_map]
      congr 2
      funext j
      simp; omega
theorem find_key (K : KeyOK C t s) {k : AV} {kv : Value} (hk : k.shp = s) (hkv : k.pv = some kv) (w : World) (es : List (AV × AV)) (xs : List MapEntry) (hl : xs.length = es.length)
    (h : ∀ (i : Nat) (e : AV × AV), es[i]? = some e → e.1.shp = s ∧ ∃ m, xs[i]? = some m ∧ e.1.pv = some m.key) :
    (Instr.findKey t kv xs).run C.P w = .ok ((mfind k es).map fun j => (j, ((xs[j]?).getD default).val)) w := by
  obtain ⟨d, hd, hn⟩ := K.now
  simp only [Instr.findKey, Sem.run_bind, run_underlying hd, Result.andThen_ok]
  rcases hn with hn | hn
  · rw [find_now hn hk hkv es xs 0 hl h]
    simp
  · rw [find_none hn hk hkv es xs 0 hl h]
    by_cases e : es = []
    · subst e; simp [mfind]
    · rw [if_neg e]
      simp only
      rw [find_asking K hk hkv w es xs 0 hl h]
      simp
end
section
variable {C : Cx} {ρ : Operand → AV} {σ : Sto} {o : Oper}
theorem ents_of {G : Gh} {s : AV} {es : List (AV × AV)} {xs : Array MapEntry} (hs : ∀ e ∈ es, e.1.shp = s) (h : ∀ (i : Nat) (e : AV × AV), es[i]? = some e → ∃ m : MapEntry, xs[i]? = some m ∧ e.1.pv = some m.key ∧ Rep G e.2 m.val) :
    ∀ (i : Nat) (e : AV × AV), es[i]? = some e → e.1.shp = s ∧ ∃ m, xs.toList[i]? = some m ∧ e.1.pv = some m.key := fun i e he => by
  obtain ⟨m, h1, h2, _⟩ := h i e he
  exact ⟨hs e (List.mem_of_getElem? he), m, by rw [Array.getElem?_toList]; exact h1, h2⟩
theorem snd_makeMap {t : TypeId} {r : Option Operand} (hr : r = none) (ho : o.op = .makeMap t r) : Snd C o ρ σ ⟨True, .map σ.next, σ.add (.mp [])⟩ := by
  intro hc w0 G a w hi hx
  subst hr
  have hle := Gh.le_new (G := G) (id := σ.next) ⟨w.heap.size, 0, 0, 0⟩ (hi.fresh _ (Nat.le_refl _))
  refine ⟨G.new σ.next ⟨w.heap.size, 0, 0, 0⟩, .value (.map (some w.heap.size)), _, w.alloc (.map #[] 0), ?_, .inl rfl, .map _ ⟨w.heap.size, 0, 0, 0⟩ (by simp [Gh.new]), ?_, Ext.new hi (σ.next + 1) _ _ _ (by omega) rfl⟩
  · simp [execOp, ho, Instr.makeMap, newObj, Sem.run]
  · refine Inv.new hi σ.next (σ.next + 1) (.mp []) _ _ (by omega) (by omega) (hi.fresh _ (Nat.le_refl _)) rfl ?_
    refine ⟨#[], 0, heap_alloc_new w _, rfl, fun i e he => by simp at he, fun k => ?_⟩
    show G.I w.heap.size k = none
    cases hI : G.I w.heap.size k with
    | none => rfl
    | some v => have := hi.imm_lt hI; omega
def lookA (zero : AV) (r : Option AV) (ok : Bool) : AV := if ok = true then .tup [r.getD zero, .bool r.isSome] else r.getD zero
theorem rep_lookA {G : Gh} {zero : AV} {zv : Value} {r : Option AV} {rv : Option Value} (ok : Bool) (hz : Rep G zero zv) (h : match r, rv with | some a, some v => Rep G a v | none, none => True | _, _ => False) :
    Rep G (lookA zero r ok) (if ok = true then .tuple #[rv.getD zv, .bool rv.isSome] else rv.getD zv) := by
  have h1 : Rep G (r.getD zero) (rv.getD zv) := by
    cases r <;> cases rv <;> first | exact h.elim | exact hz | exact h
  have h2 : rv.isSome = r.isSome := by cases r <;> cases rv <;> first | exact h.elim | rfl
  cases ok with
  | false => simpa [lookA] using h1
  | true =>
    simp only [lookA, if_true]
    refine .tup _ _ rfl fun i c v hc hv => ?_
    match i with
    | 0 => simp at hc hv; subst hc; subst hv; exact h1
    | 1 => simp at hc hv; subst hc; subst hv; rw [h2]; exact .bool _
    | i + 2 => simp at hc
theorem snd_lookup {t kt et : TypeId} {ti ei : TyI} {x ix : Operand} {id : Nat} {es : List (AV × AV)} {ok : Bool} (ht : C.ty t = some ti) (hd : ti.desc = .map kt et) (he : C.ty et = some ei) (ho : o.op = .lookup t x ix ok)
    (hx : ρ x = .map id) (hs : σ.get id = some (.mp es)) :
    Snd C o ρ σ ⟨KeyOK C kt (ρ ix).shp ∧ (ρ ix).pv.isSome = true ∧ ∀ e ∈ es, e.1.shp = (ρ ix).shp, lookA (ofV ei.zero) (mget (ρ ix) es) ok, σ⟩ :=
  snd_pure fun ⟨K, hp, hsh⟩ w0 G a w hi hr => by
    have hm := hr x (by simp [ho, Op.operands])
    have hk := hr ix (by simp [ho, Op.operands])
    obtain ⟨kv, hkv⟩ := Option.isSome_iff_exists.1 hp
    have ek := hk.pv hkv
    rw [hx] at hm
    cases hv : a.eval x with
    | map r =>
      rw [hv] at hm
      cases hm with
      | map _ B hj =>
        obtain ⟨_, xs, clock, h1, h2, h3, h4⟩ := hi.obj id _ B hs hj
        have hf := find_key K rfl hkv w es xs.toList (by simpa using h2) (ents_of hsh h3)
        refine ⟨if ok = true then .tuple #[((mfind (ρ ix) es).map fun j => ((xs[j]?).getD default).val).getD ei.zero, .bool ((mfind (ρ ix) es).map fun j => ((xs[j]?).getD default).val).isSome] else ((mfind (ρ ix) es).map fun j => ((xs[j]?).getD default).val).getD ei.zero, ?_, rep_lookA ok (rep_ofV G _) ?_⟩
        · have hund := C.run_und ht w
          rw [hd] at hund
          simp only [execOp, ho, Instr.lookup, Sem.run_bind, hund, Result.andThen_ok, hv, MapKept.run_getObj_map h1, Sem.run_pure, ek, K.chk _ _ _ w rfl hkv, hf]
          cases hmf : mfind (ρ ix) es with
          | none => simp [hmf, C.run_zero he, Result.andThen]
          | some j => simp [hmf, Result.andThen]
        · cases hmf : mfind (ρ ix) es with
          | none => rw [(mfind_none hmf).1]; trivial
          | some j =>
            obtain ⟨k1, k2, k3, _⟩ := mfind_lt hmf
            obtain ⟨m, g1, g2, g3⟩ := h3 j _ (List.getElem?_eq_getElem k1)
            rw [k2, List.getElem?_eq_getElem k1]
            simp only [Option.map_some, g1, Option.getD_some]
            exact g3
    | _ => rw [hv] at hm; cases hm
theorem snd_lookup_nil {t kt et : TypeId} {ti ei : TyI} {x ix : Operand} {ok : Bool} (ht : C.ty t = some ti) (hd : ti.desc = .map kt et) (he : C.ty et = some ei) (ho : o.op = .lookup t x ix ok)
    (hx : ρ x = .nilm) : Snd C o ρ σ ⟨KeyOK C kt (ρ ix).shp ∧ (ρ ix).pv.isSome = true, lookA (ofV ei.zero) none ok, σ⟩ :=
  snd_pure fun ⟨K, hp⟩ w0 G a w hi hr => by
    have hm := hr x (by simp [ho, Op.operands])
    have hk := hr ix (by simp [ho, Op.operands])
    obtain ⟨kv, hkv⟩ := Option.isSome_iff_exists.1 hp
    have ek := hk.pv hkv
    rw [hx] at hm
    cases hv : a.eval x with
    | map r =>
      rw [hv] at hm
      cases hm with
      | nilm =>
        have hf := find_key K rfl hkv w [] [] rfl (fun i e he => by simp at he)
        refine ⟨if ok = true then .tuple #[ei.zero, .bool false] else ei.zero, ?_, rep_lookA (r := none) (rv := none) ok (rep_ofV G _) trivial⟩
        have hund := C.run_und ht w
        rw [hd] at hund
        simp only [execOp, ho, Instr.lookup, Sem.run_bind, hund, Result.andThen_ok, hv, Sem.run_pure, ek, K.chk _ _ _ w rfl hkv]
        simp [hf, mfind, C.run_zero he, Result.andThen]
    | _ => rw [hv] at hm; cases hm
theorem sameBits1 {a : AV} {v : Value} (n : Nat) (h : a.pv1 = some v) : Instr.sameBits n v v = true := by
  cases a <;> simp [AV.pv1] at h <;> subst h <;> cases n <;> simp [Instr.sameBits, ba_beq]
theorem sameBitsL (n : Nat) : ∀ {l : List AV} {vs : List Value}, AV.pvL l = some vs → (vs.zip vs).all (fun (x, y) => Instr.sameBits n x y) = true
  | [], vs, h => by simp only [AV.pvL, Option.some.injEq] at h; subst h; rfl
  | a :: l, vs, h => by
    simp only [AV.pvL] at h
    split at h
    · rename_i v vs' g1 g2
      simp only [Option.some.injEq] at h; subst h
      simp only [List.zip_cons_cons, List.all_cons, sameBits1 n g1, sameBitsL n g2, Bool.and_self]
    · cases h
theorem sameBits_pv {a : AV} {v : Value} (h : a.pv = some v) : Instr.sameBits 10000 v v = true := by
  have e : (10000 : Nat) = 9999 + 1 := rfl
  rw [e]
  generalize 9999 = n
  cases a with
  | agg cs =>
    simp only [AV.pv, Option.map_eq_some_iff] at h
    obtain ⟨l, h1, rfl⟩ := h
    simp only [Instr.sameBits, beq_self_eq_true, Bool.true_and]
    exact sameBitsL n h1
  | _ => exact sameBits1 _ (by simpa [AV.pv] using h)
theorem snd_mapUpdate {t kt et : TypeId} {ti : TyI} {x k y : Operand} {id : Nat} {es : List (AV × AV)} (ht : C.ty t = some ti) (hd : ti.desc = .map kt et) (ho : o.op = .mapUpdate t x k y ∨ o.op = .insert t x k y)
    (hx : ρ x = .map id) (hs : σ.get id = some (.mp es)) :
    Snd C o ρ σ ⟨KeyOK C kt (ρ k).shp ∧ (ρ k).pv.isSome = true ∧ ∀ e ∈ es, e.1.shp = (ρ k).shp, .undef, σ.set id (.mp (mput (ρ k) (ρ y) es))⟩ := by
  rintro ⟨K, hp, hsh⟩ w0 G a w hi hr
  have hm := hr x (by rcases ho with ho | ho <;> simp [ho, Op.operands])
  have hk := hr k (by rcases ho with ho | ho <;> simp [ho, Op.operands])
  have hy := hr y (by rcases ho with ho | ho <;> simp [ho, Op.operands])
  obtain ⟨kv, hkv⟩ := Option.isSome_iff_exists.1 hp
  have ek := hk.pv hkv
  rw [hx] at hm
  cases hv : a.eval x with
  | map r =>
    rw [hv] at hm
    cases hm with
    | map _ B hj =>
      obtain ⟨_, xs, clock, h1, h2, h3, h4⟩ := hi.obj id _ B hs hj
      have hf := find_key K rfl hkv w es xs.toList (by simpa using h2) (ents_of hsh h3)
      have hund := C.run_und ht w
      rw [hd] at hund
      suffices hh : ∃ xs' clock', (Instr.mapUpdate t (.map (some B.b)) kv (a.eval y)).run C.P w = .ok () (w.putObj B.b (.map xs' clock')) ∧ xs'.size = (mput (ρ k) (ρ y) es).length ∧
          ∀ (i : Nat) (e : AV × AV), (mput (ρ k) (ρ y) es)[i]? = some e → ∃ m : MapEntry, xs'[i]? = some m ∧ e.1.pv = some m.key ∧ Rep G e.2 m.val by
        obtain ⟨xs', clock', g1, g2, g3⟩ := hh
        have hlt := (Array.getElem?_eq_some_iff.1 h1).1
        refine ⟨G, .skip, undef, w.putObj B.b (.map xs' clock'), by rcases ho with ho | ho <;> simp [execOp, ho, hv, ek, g1], .inr ⟨rfl, rfl⟩, .undef _, ?_, ?_⟩
        · refine Inv.set hi id _ _ B hs hj rfl rfl rfl (by simp) (fun b' hb' => World.putObj_heap_other hb') (fun k' v' hk' => by rw [h4 k'] at hk'; cases hk') ?_
          exact ⟨xs', clock', World.putObj_heap_same hlt, g2, g3, h4⟩
        · exact Ext.set id _ _ B hs hj (by simp) (fun b' hb' => World.putObj_heap_other hb')
      cases hmf : mfind (ρ k) es with
      | none =>
        obtain ⟨_, e2⟩ := mfind_none hmf
        refine ⟨xs.push { key := kv, val := a.eval y, born := clock }, clock + 1, ?_, ?_, ?_⟩
        · simp only [Instr.mapUpdate, Sem.run_bind, hund, Result.andThen_ok, MapKept.run_getObj_map h1, K.chk _ _ _ w rfl hkv, hf, hmf, Option.map_none]
          rw [MapKept.run_setObj_map _ h1]
          rfl
        · rw [e2]; simp [h2]
        · intro i e hie
          rw [e2] at hie
          by_cases hlt : i < es.length
          · rw [List.getElem?_append_left hlt] at hie
            obtain ⟨m, q1, q2⟩ := h3 i e hie
            refine ⟨m, ?_, q2⟩
            rw [Array.getElem?_push, if_neg (by omega)]; exact q1
          · rw [List.getElem?_append_right (by omega)] at hie
            by_cases e0 : i = es.length
            · subst e0
              simp at hie; subst hie
              exact ⟨_, by rw [Array.getElem?_push, if_pos h2.symm], hkv, hy⟩
            · rw [List.getElem?_eq_none (by simp; omega)] at hie; cases hie
      | some j =>
        obtain ⟨k1, _, e2, e0, ej, hpq⟩ := mfind_lt hmf
        obtain ⟨m, q1, q2, q3⟩ := h3 j _ ej
        have hkk : m.key = kv := (peq_eq (hsh e0 (List.mem_of_getElem? ej)).symm hkv q2 hpq).symm
        refine ⟨xs.modify j fun e => { e with key := kv, val := a.eval y }, clock, ?_, ?_, ?_⟩
        · simp only [Instr.mapUpdate, Sem.run_bind, hund, Result.andThen_ok, MapKept.run_getObj_map h1, K.chk _ _ _ w rfl hkv, hf, hmf, Option.map_some, q1, Option.getD_some, Instr.keyThatStays, hkk, sameBits_pv hkv, if_true, Sem.run_pure]
          rw [MapKept.run_setObj_map _ h1]
          rfl
        · rw [e2]; simp [h2]
        · intro i e hie
          rw [e2, List.getElem?_set] at hie
          rw [Array.getElem?_modify]
          by_cases e1 : j = i
          · subst e1
            rw [if_pos rfl, if_pos k1] at hie
            cases hie
            rw [if_pos rfl, q1]
            exact ⟨_, rfl, hkv, hy⟩
          · rw [if_neg e1] at hie ⊢
            exact h3 i e hie
  | _ => rw [hv] at hm; cases hm
theorem snd_len_map {t kt et : TypeId} {ti : TyI} {x : Operand} {id : Nat} {es : List (AV × AV)} (ht : C.ty t = some ti) (hd : ti.desc = .map kt et) (ho : o.op = .call { callee := .builtin .len, args := #[x], argTypes := #[t] })
    (hx : ρ x = .map id) (hs : σ.get id = some (.mp es)) : Snd C o ρ σ ⟨True, .int .i64 es.length, σ⟩ :=
  snd_pure fun _ w0 G a w hi hr => by
    have hp := hr x (by simp [ho, Op.operands, Call.operands])
    rw [hx] at hp
    cases hv : a.eval x with
    | map r =>
      rw [hv] at hp
      cases hp with
      | map _ B hj =>
        obtain ⟨_, xs, clock, h1, h2, h3, h4⟩ := hi.obj id _ B hs hj
        exact ⟨_, by simp [execOp, ho, resolve, invoke, builtin, Builtin.len_, C.run_und ht, hd, hv, goInt, MapKept.run_getObj_map h1, h2, Result.andThen], .int _ _⟩
    | _ => rw [hv] at hp; cases hp
theorem snd_bin_agg {op : BinOp} {t t' : TypeId} {x y : Operand} {cs ds : List AV} (ho : o.op = .binOp op t x y t') (hx : ρ x = .agg cs) (hy : ρ y = .agg ds) :
    Snd C o ρ σ ⟨(KeyOK C t (AV.agg cs).shp ∧ C.P.eqGuardType C.P.depth t = false ∧ (AV.agg ds).shp = (AV.agg cs).shp ∧ (AV.agg cs).pv.isSome = true ∧ (AV.agg ds).pv.isSome = true) ∧ (op = .eql ∨ op = .neq),
      .bool (if op = .eql then peqL cs ds else !peqL cs ds), σ⟩ :=
  snd_pure fun ⟨⟨K, hg, hsh, hp1, hp2⟩, hop⟩ w0 G a w hi hr => by
    obtain ⟨v1, g1⟩ := Option.isSome_iff_exists.1 hp1
    obtain ⟨v2, g2⟩ := Option.isSome_iff_exists.1 hp2
    have e1 := hr x (by simp [ho, Op.operands])
    rw [hx] at e1
    have k1 := e1.pv g1
    have e2 := hr y (by simp [ho, Op.operands])
    rw [hy] at e2
    have k2 := e2.pv g2
    have hq := K.eq (.agg cs) (.agg ds) v1 v2 w rfl hsh g1 g2
    simp only [AV.pv, Option.map_eq_some_iff] at g1 g2
    obtain ⟨l1, _, rfl⟩ := g1
    obtain ⟨l2, _, rfl⟩ := g2
    simp only [AV.peq] at hq
    rcases hop with rfl | rfl
    · exact ⟨.bool (peqL cs ds), by simp [execOp, ho, k1, k2, eqGuard, binOp, hq, hg, Result.andThen], .bool _⟩
    · exact ⟨.bool (!peqL cs ds), by simp [execOp, ho, k1, k2, eqGuard, binOp, hq, hg, Result.andThen], .bool _⟩
end
theorem keyOK_int {C : Cx} {t : TypeId} {i : TyI} {k q : IntKind} (ht : C.ty t = some i) (hd : i.desc = .int q) : KeyOK C t (.int k 0) := by
  have hu := (C.ok t i ht).1
  rw [hd] at hu
  have inv : ∀ a v, AV.shp a = .int k 0 → a.pv = some v → ∃ n, a = .int k n ∧ v = .int k n := by
    intro a v h1 h2
    cases a <;> simp [AV.shp, AV.shp1] at h1
    subst h1
    simp [AV.pv, AV.pv1] at h2
    exact ⟨_, rfl, h2.symm⟩
  refine ⟨⟨_, hu, .inl fun a b v u h1 h2 h3 h4 => ?_⟩, fun e a v w h1 h2 => ?_, fun a b v u w h1 h2 h3 h4 => ?_⟩
  · obtain ⟨n, rfl, rfl⟩ := inv _ _ h1 h3
    obtain ⟨m, rfl, rfl⟩ := inv _ _ h2 h4
    simp [Instr.sameNow, AV.peq, peq1]
  · obtain ⟨n, rfl, rfl⟩ := inv _ _ h1 h2
    have e : (10000 : Nat) = 9999 + 1 := rfl
    rw [e]
    generalize 9999 = d
    simp [Instr.checkKey, run_underlying hu]
  · obtain ⟨n, rfl, rfl⟩ := inv _ _ h1 h3
    obtain ⟨m, rfl, rfl⟩ := inv _ _ h2 h4
    exact run_equalIn_int w 9999 t k q n m hu
theorem keyOK_bool {C : Cx} {t : TypeId} {i : TyI} (ht : C.ty t = some i) (hd : i.desc = .bool) : KeyOK C t (.bool false) := by
  have hu := (C.ok t i ht).1
  rw [hd] at hu
  have inv : ∀ a v, AV.shp a = .bool false → a.pv = some v → ∃ n, a = .bool n ∧ v = .bool n := by
    intro a v h1 h2
    cases a <;> simp [AV.shp, AV.shp1] at h1
    simp [AV.pv, AV.pv1] at h2
    exact ⟨_, rfl, h2.symm⟩
  refine ⟨⟨_, hu, .inl fun a b v u h1 h2 h3 h4 => ?_⟩, fun e a v w h1 h2 => ?_, fun a b v u w h1 h2 h3 h4 => ?_⟩
  · obtain ⟨n, rfl, rfl⟩ := inv _ _ h1 h3
    obtain ⟨m, rfl, rfl⟩ := inv _ _ h2 h4
    simp [Instr.sameNow, AV.peq, peq1]
  · obtain ⟨n, rfl, rfl⟩ := inv _ _ h1 h2
    have e : (10000 : Nat) = 9999 + 1 := rfl
    rw [e]
    generalize 9999 = d
    simp [Instr.checkKey, run_underlying hu]
  · obtain ⟨n, rfl, rfl⟩ := inv _ _ h1 h3
    obtain ⟨m, rfl, rfl⟩ := inv _ _ h2 h4
    exact run_equalIn_bool w 9999 t n m hu
theorem keyOK_str {C : Cx} {t : TypeId} {i : TyI} (ht : C.ty t = some i) (hd : i.desc = .string) : KeyOK C t (.str ByteArray.empty) := by
  have hu := (C.ok t i ht).1
  rw [hd] at hu
  have inv : ∀ a v, AV.shp a = .str ByteArray.empty → a.pv = some v → ∃ n, a = .str n ∧ v = .string n := by
    intro a v h1 h2
    cases a <;> simp [AV.shp, AV.shp1] at h1
    simp [AV.pv, AV.pv1] at h2
    exact ⟨_, rfl, h2.symm⟩
  refine ⟨⟨_, hu, .inl fun a b v u h1 h2 h3 h4 => ?_⟩, fun e a v w h1 h2 => ?_, fun a b v u w h1 h2 h3 h4 => ?_⟩
  · obtain ⟨n, rfl, rfl⟩ := inv _ _ h1 h3
    obtain ⟨m, rfl, rfl⟩ := inv _ _ h2 h4
    simp [Instr.sameNow, AV.peq, peq1]
  · obtain ⟨n, rfl, rfl⟩ := inv _ _ h1 h2
    have e : (10000 : Nat) = 9999 + 1 := rfl
    rw [e]
    generalize 9999 = d
    simp [Instr.checkKey, run_underlying hu]
  · obtain ⟨n, rfl, rfl⟩ := inv _ _ h1 h3
    obtain ⟨m, rfl, rfl⟩ := inv _ _ h2 h4
    have := run_equalIn_string (P := C.P) w 9999 t n m hu
    rw [← beq_toListBytes] at this
    exact this
end Go.Lg
/- Lg, part G2: append to a list that is still appended to. -/
namespace Go.Lg
open Go.RowKit
theorem rep_list_of {G : Gh} {zs : List AV} {es b o len cap : Nat} {cs : Array Value} (hl : zs.length = len) (hel : ∀ z ∈ zs, z.cells.length = es) (hcr : CR G (flat zs) cs)
    (hI : ∀ j v, cs[j]? = some v → G.I b (o + j) = some v) (hc : zs.length ≤ cap) : Rep G (.list false zs) (.slice (some ⟨b, o, none⟩) len cap) := by
  subst hl
  refine .list false zs b o zs.length cap es (fun i k => (cs[i * es + k]?).getD undef) rfl hc (fun h => by cases h) (fun i x hx => hel x (mem_of_get hx)) (fun i k hi hk => ?_) (fun i x k c hx hc' => ?_)
  · have hx := List.getElem?_eq_getElem hi
    have hk' : k < (zs[i]).cells.length := by rw [hel _ (List.getElem_mem hi)]; exact hk
    obtain ⟨u, hu, _⟩ := hcr.flat hel i _ k _ hx (List.getElem?_eq_getElem hk')
    rw [hu]
    exact hI _ _ hu
  · obtain ⟨u, hu, hr⟩ := hcr.flat hel i x k c hx hc'
    simp only [hu, Option.getD_some]
    exact hr
def Gh.grow (G : Gh) (id : Nat) (T : Tk) (b lo hi : Nat) (vs : Array Value) : Gh := ⟨G.j, fun b' k => if b' = b ∧ lo ≤ k ∧ k < hi then vs[k]? else G.I b' k, fun i => if i = id then some T else G.T i⟩
theorem Sto.set_same {σ : Sto} {id : Nat} {o : AObj} (h : σ.get id = some o) : σ.set id o = σ := by
  cases σ with
  | mk get next =>
    simp only [Sto.set, Sto.mk.injEq, and_true]
    funext i
    split
    · rename_i e; rw [e]; exact h.symm
    · rfl
theorem tok_step {gl : Nat → List AV} {w0 w w' : World} {G : Gh} {σ : Sto} (hi : Inv gl w0 G σ w) {id es n m b o cap : Nat} {T : Tk} {vs : Array Value} {ty : TypeId} (hg : σ.get id = some (.tok es n)) (hT : G.T id = some T) (hn : T.n = n)
    (hm : n < m) (hmc : m ≤ cap) (hown : TokB G σ id b ∨ b = w.heap.size) (hos : w'.os = w.os) (ht : w'.tape = w.tape) (hu : w'.output = w.output) (hsz : w.heap.size ≤ w'.heap.size) (hk : ∀ b', b' < w.heap.size → b' ≠ b → w'.heap[b']? = w.heap[b']?)
    (hb : w'.heap[b]? = some (.cells vs ty (0, 0))) (hvs : vs.size = o + cap * es) (lo : Nat) (hlo2 : lo ≤ o + m * es) (hlo : ∀ k v, G.I b k = some v → k < lo ∧ vs[k]? = some v) :
    G.le (G.grow id ⟨m, some ⟨b, o, none⟩, cap⟩ b lo (o + m * es) vs) ∧ Inv gl w0 (G.grow id ⟨m, some ⟨b, o, none⟩, cap⟩ b lo (o + m * es) vs) (σ.set id (.tok es m)) w' ∧
      Ext G σ w (G.grow id ⟨m, some ⟨b, o, none⟩, cap⟩ b lo (o + m * es) vs) (σ.set id (.tok es m)) w' := by
  have hbase : w0.heap.size ≤ b := by
    rcases hown with h | h
    · obtain ⟨es', n', T', o', h1, h2, h3, h4⟩ := h
      obtain ⟨T2, k1, k2, k3, k4⟩ := hi.tok.ok id es' n' h1
      rw [h2] at k1; cases k1
      obtain ⟨b2, o2, vs2, ty2, g1, g2, _⟩ := k4 h3
      rw [h4] at g1; cases g1
      exact g2
    · rw [h]; exact hi.base_le
  have hjb : ∀ i o' B, σ.get i = some o' → G.j i = some B → B.b ≠ b := fun i o' B h1 h2 => by
    rcases hown with h | h
    · exact hi.tok.oj id b h i o' B h1 h2
    · have := (hi.obj i o' B h1 h2).2.lt; omega
  have htb : ∀ i, i ≠ id → ¬ TokB G σ i b := fun i hne h => by
    rcases hown with h' | h'
    · exact hne (hi.tok.inj i id b h h')
    · have := hi.tok.lt h; omega
  have hjn : G.j id = none := by
    cases hj : G.j id with
    | none => rfl
    | some B => exact (hi.obj id _ B hg hj).2.elim
  have hid := hi.live id _ hg
  have hle : G.le (G.grow id ⟨m, some ⟨b, o, none⟩, cap⟩ b lo (o + m * es) vs) := by
    refine ⟨fun _ _ x => x, fun b' k v hv => ?_, fun i T' hT' => ?_⟩
    · simp only [Gh.grow]
      split
      · rename_i h
        obtain ⟨rfl, h1, h2⟩ := h
        exact (hlo k v hv).2
      · exact hv
    · simp only [Gh.grow]
      by_cases e : i = id
      · subst e
        rw [hT] at hT'; cases hT'
        rw [if_pos rfl]
        exact ⟨_, rfl, by simp only; omega, fun h => by simp only at h; omega⟩
      · rw [if_neg e]; exact ⟨T', hT', Nat.le_refl _, fun _ => rfl⟩
  have hIo : ∀ b' k, b' ≠ b → (G.grow id ⟨m, some ⟨b, o, none⟩, cap⟩ b lo (o + m * es) vs).I b' k = G.I b' k := fun b' k hne => by
    simp only [Gh.grow]; rw [if_neg (by rintro ⟨e, _⟩; exact hne e)]
  have hgs : ∀ i o', (σ.set id (.tok es m)).get i = some o' → (i = id ∧ o' = .tok es m) ∨ (i ≠ id ∧ σ.get i = some o') := fun i o' h => by
    simp only [Sto.set] at h
    split at h
    · rename_i e; cases h; exact .inl ⟨e, rfl⟩
    · rename_i e; exact .inr ⟨e, h⟩
  have hkb : ∀ b', b' < w.heap.size → b' ≠ b → w'.heap[b']? = w.heap[b']? := hk
  refine ⟨hle, {
    below := hi.below.trans ⟨hos, ht, hu, hsz, fun k hk' => hk k (Nat.lt_of_lt_of_le hk' hi.base_le) (by omega)⟩
    imm := fun b' k v hv => by
      simp only [Gh.grow] at hv
      split at hv
      · rename_i h
        obtain ⟨rfl, h1, h2⟩ := h
        rw [cell_at hb]; exact hv
      · by_cases e : b' = b
        · subst e
          rw [cell_at hb]; exact (hlo k v hv).2
        · exact (World.cell?_of_block (w := w) (a := ⟨b', k, none⟩) (hk b' (hi.imm_lt hv) e)).trans (hi.imm b' k v hv)
    gl := fun g k c hc => (hi.gl g k c hc).imp fun v hv => ⟨hle.I _ _ _ hv.1, hv.2.mono hle⟩
    live := fun i o' h => by
      rcases hgs i o' h with ⟨rfl, _⟩ | ⟨_, h'⟩
      · exact hid
      · exact hi.live i o' h'
    obj := fun i o' B h1 h2 => by
      rcases hgs i o' h1 with ⟨rfl, rfl⟩ | ⟨_, h'⟩
      · have h2' : G.j i = some B := h2
        rw [hjn] at h2'; cases h2'
      · have h2' : G.j i = some B := h2
        have hne := hjb i o' B h' h2'
        obtain ⟨q1, q2⟩ := hi.obj i o' B h' h2'
        exact ⟨q1, q2.keep hle (hk _ q2.lt hne) (fun k => hIo _ _ hne)⟩
    fresh := hi.fresh
    inj := fun i i' o1 o2 B1 B2 h1 h2 h3 h4 h5 => by
      have h3' : G.j i = some B1 := h3
      have h4' : G.j i' = some B2 := h4
      rcases hgs i o1 h1 with ⟨rfl, _⟩ | ⟨_, h1'⟩
      · rw [hjn] at h3'; cases h3'
      · rcases hgs i' o2 h2 with ⟨rfl, _⟩ | ⟨_, h2'⟩
        · rw [hjn] at h4'; cases h4'
        · exact hi.inj i i' o1 o2 B1 B2 h1' h2' h3' h4' h5
    has := fun i o' h1 hnt => by
      rcases hgs i o' h1 with ⟨rfl, rfl⟩ | ⟨_, h1'⟩
      · exact absurd rfl (hnt es m)
      · exact hi.has i o' h1' hnt
    freshT := fun i h => by
      simp only [Gh.grow]
      have : σ.next ≤ i := h
      rw [if_neg (by omega)]; exact hi.freshT i h
    tok := by
      have up : ∀ i b', TokB (G.grow id ⟨m, some ⟨b, o, none⟩, cap⟩ b lo (o + m * es) vs) (σ.set id (.tok es m)) i b' → (i = id ∧ b' = b) ∨ (i ≠ id ∧ TokB G σ i b') := by
        rintro i b' ⟨es', n', T', o', h1, h2, h3, h4⟩
        simp only [Gh.grow] at h2
        rcases hgs i _ h1 with ⟨rfl, _⟩ | ⟨hne, h1'⟩
        · rw [if_pos rfl] at h2; cases h2
          simp only [Option.some.injEq, Addr.mk.injEq] at h4
          exact .inl ⟨rfl, h4.1.symm⟩
        · rw [if_neg hne] at h2
          exact .inr ⟨hne, es', n', T', o', h1', h2, h3, h4⟩
      refine ⟨fun i es' n' h1 => ?_, fun i i' b' h1 h2 => ?_, fun i b' h1 i' o' B h2 h3 => ?_⟩
      · rcases hgs i _ h1 with ⟨rfl, e⟩ | ⟨hne, h1'⟩
        · simp only [AObj.tok.injEq] at e
          obtain ⟨rfl, rfl⟩ := e
          refine ⟨⟨n', some ⟨b, o, none⟩, cap⟩, by simp [Gh.grow], rfl, hmc, fun hlt => ⟨b, o, vs, ty, rfl, hbase, hb, hvs, fun k hk' => ?_⟩⟩
          simp only [Gh.grow]
          rw [if_neg (by rintro ⟨_, _, h⟩; omega)]
          cases hI : G.I b k with
          | none => rfl
          | some v =>
            have := (hlo k v hI).1
            omega
        · obtain ⟨T', k1, k2, k3, k4⟩ := hi.tok.ok i es' n' h1'
          refine ⟨T', by simp only [Gh.grow]; rw [if_neg hne]; exact k1, k2, k3, fun hlt => ?_⟩
          obtain ⟨b3, o3, vs3, ty3, g1, g2, g3, g4, g5⟩ := k4 hlt
          have hbt : TokB G σ i b3 := ⟨es', n', T', o3, h1', k1, hlt, g1⟩
          have hne3 : b3 ≠ b := fun e => htb i hne (e ▸ hbt)
          exact ⟨b3, o3, vs3, ty3, g1, g2, (hk b3 (hi.tok.lt hbt) hne3).trans g3, g4, fun k hk' => (hIo _ _ hne3).trans (g5 k hk')⟩
      · rcases up i b' h1 with ⟨rfl, rfl⟩ | ⟨hne, h1'⟩ <;> rcases up i' _ h2 with ⟨rfl, e⟩ | ⟨hne', h2'⟩
        · rfl
        · exact absurd h2' (htb i' hne')
        · subst e; exact absurd h1' (htb i hne)
        · exact hi.tok.inj i i' b' h1' h2'
      · have h3' : G.j i' = some B := h3
        rcases hgs i' o' h2 with ⟨rfl, _⟩ | ⟨_, h2'⟩
        · rw [hjn] at h3'; cases h3'
        · rcases up i b' h1 with ⟨rfl, rfl⟩ | ⟨hne, h1'⟩
          · exact hjb i' o' B h2' h3'
          · exact hi.tok.oj i b' h1' i' o' B h2' h3' }, {
    le := hle
    size := hsz
    keep := fun b' hb' hn => by
      have hne : b' ≠ b := by
        rintro rfl
        rcases hown with h | h
        · exact hn (.inr ⟨id, h⟩)
        · omega
      refine ⟨hk b' hb' hne, fun k => hIo _ _ hne, ?_⟩
      rintro (⟨i, o', B, h1, h2, h3⟩ | ⟨i, es', n', T', o', h1, h2, h3, h4⟩)
      · have h2' : G.j i = some B := h2
        rcases hgs i o' h1 with ⟨rfl, _⟩ | ⟨_, h1'⟩
        · rw [hjn] at h2'; cases h2'
        · exact hn (.inl ⟨i, o', B, h1', h2', h3⟩)
      · simp only [Gh.grow] at h2
        rcases hgs i _ h1 with ⟨rfl, _⟩ | ⟨hni, h1'⟩
        · rw [if_pos rfl] at h2; cases h2
          simp only [Option.some.injEq, Addr.mk.injEq] at h4
          exact hne h4.1.symm
        · rw [if_neg hni] at h2
          exact hn (.inr ⟨i, es', n', T', o', h1', h2, h3, h4⟩)
    next := Nat.le_refl _ }⟩
section ops
variable {C : Cx} {o : Oper} {ρ : Operand → AV} {σ : Sto}
theorem Src.mono {C : Cx} {G G' : Gh} {w : World} {t2 : TypeId} {es : Nat} {X : Value} {ys : List AV} (h : Src C G w t2 es X ys) (le : G.le G') : Src C G' w t2 es X ys :=
  ⟨h.ty, h.len, fun w' hw' => by
    obtain ⟨news, h1, h2, h3⟩ := h.cells w' hw'
    exact ⟨news, h1, h2.mono le, h3⟩, h.el⟩
theorem append_own_sem {t t2 e : TypeId} {ti ei : TyI} {s x : Operand} {id es n : Nat} {xs ys : List AV} (ht : C.ty t = some ti) (hd : ti.desc = .slice e) (he : C.ty e = some ei)
    (ho : o.op = .call { callee := .builtin .append, args := #[s, x], argTypes := #[t, t2] }) (hg : σ.get id = some (.tok es n)) {w0 : World} {G : Gh} {a : Act} {w : World} (hi : Inv C.gl w0 G σ w)
    (hp : Rep G (.own id xs) (a.eval s)) (hX : Src C G w t2 ei.size (a.eval x) ys) (hn : n = xs.length) (hes : es = ei.size) (hel : ∀ x ∈ xs, x.cells.length = ei.size) (hone : ∀ x ∈ xs, x.cells.all AV.one = true) (hz : ei.zero.cells.size = ei.size)
    (hbb : (xs.length + ys.length) * ei.bytes ≤ 140737488355328) (h63 : xs.length + ys.length ≤ 9223372036854775807) : ∃ G' nx v' w', (execOp a.eval o).run C.P w = .ok nx w' ∧ (nx = .value v' ∨ nx = .skip ∧ v' = undef) ∧ Rep G' (.own id (xs ++ ys)) v' ∧ Inv C.gl w0 G' (σ.set id (.tok es (n + ys.length))) w' ∧
      Ext G σ w G' (σ.set id (.tok es (n + ys.length))) w' := by
  subst hes
  generalize hv : a.eval s = v at hp
  cases hp with
  | own _ _ _ h htk =>
  obtain ⟨T, hT, hle0, hfit⟩ := htk
  obtain ⟨T2, k1, k2, k3, k4⟩ := hi.tok.ok id _ _ hg
  rw [hT] at k1; cases k1
  have hv' := hfit (by omega)
  subst hv'
  obtain ⟨olds, o1, o2, o3⟩ := list_cells h hel hone
  have hol : olds.length = xs.length * ei.size := by have := o1.1; rw [(flat_get hel).1] at this; simpa using this
  have helall : ∀ z ∈ xs ++ ys, z.cells.length = ei.size := fun z hz' => by
    rcases List.mem_append.1 hz' with h | h
    · exact hel z h
    · exact hX.el z h
  by_cases hy : ys = []
  · subst hy
    obtain ⟨i2, hi2, hni⟩ := hX.ty
    obtain ⟨news, n1, n2, n3⟩ := hX.cells w rfl
    have hnn : news = [] := by have := n2.1; simpa [flat] using this
    subst hnn
    have hm : (match i2.desc with | .int _ => true | _ => false) = false := by
      cases hd2 : i2.desc with
      | int k => exact absurd hd2 (hni k)
      | _ => rfl
    simp only [List.append_nil, List.length_nil, Nat.add_zero] at *
    rw [Sto.set_same hg]
    refine ⟨G, _, .slice T.a xs.length T.cap, w, ?_, .inl rfl, .own _ _ _ h ⟨T, hT, by omega, fun _ => rfl⟩, hi, .refl G σ w⟩
    simp only [execOp, ho, resolve, invoke, builtin, Sem.run_bind, Sem.run_pure, Result.andThen_ok]
    simp only [List.map_toArray, List.map_cons, List.map_nil, hv]
    have hle2 : xs.length ≤ T.cap := by omega
    simp only [Builtin.append_, List.getElem?_toArray, List.getElem?_cons_zero, List.getElem?_cons_succ, Sem.run_bind, C.run_und ht, Result.andThen_ok, hd, C.run_size he, C.run_und hi2]
    simp only [Sem.run_bind, C.run_und hi2, Result.andThen_ok, Sem.run_pure, hm, Bool.false_eq_true, if_false, hX.len, List.length_nil, Nat.add_zero, hle2, if_true, Bool.not_false, n1]
    cases T.a <;> simp [storeCells]
  · have hpos : 0 < ys.length := List.length_pos_iff.2 hy
    by_cases hroom : xs.length + ys.length ≤ T.cap
    · obtain ⟨b, o', vs, ty, g1, g2, g3, g4, g5⟩ := k4 (by omega)
      have hvslice : a.eval s = .slice (some ⟨b, o', none⟩) xs.length T.cap := by rw [hv, g1]
      have hle : (xs.length + ys.length) * ei.size ≤ T.cap * ei.size := Nat.mul_le_mul_right _ hroom
      rw [Nat.add_mul] at hle
      obtain ⟨news, n1, n2⟩ := run_append_in (ty := o.type) ht hd he hX b o' xs.length T.cap vs ty g3 hroom (by omega)
      have hnl : news.length = ys.length * ei.size := by have := n1.1; rw [(flat_get hX.el).1] at this; simpa using this
      have hwsz : (wrV vs (o' + xs.length * ei.size) news).size = vs.size := wrV_size (by omega)
      subst hn
      obtain ⟨q1, q2, q3⟩ := tok_step (w' := w.setRow b (wrV vs (o' + xs.length * ei.size) news)) (m := xs.length + ys.length) (b := b) (o := o') (cap := T.cap) (vs := wrV vs (o' + xs.length * ei.size) news) (ty := ty) hi hg hT k2 (by omega) hroom
        (.inl ⟨_, _, T, o', hg, hT, by omega, g1⟩) rfl rfl rfl (by simp) (fun b' _ hb' => setRow_other w b b' _ hb') (setRow_heap w b vs _ ty _ g3) (by rw [hwsz, g4]) (o' + xs.length * ei.size) (by rw [Nat.add_mul]; omega) (fun k v hI => by
          have hlt : k < o' + xs.length * ei.size := by
            rcases Nat.lt_or_ge k (o' + xs.length * ei.size) with h | h
            · exact h
            · rw [g5 k h] at hI; cases hI
          refine ⟨hlt, ?_⟩
          have hc := hi.imm _ _ _ hI
          rw [cell_at g3] at hc
          rw [wrV_get (by omega), if_neg (by omega)]; exact hc)
      refine ⟨_, _, .slice (some ⟨b, o', none⟩) (xs.length + ys.length) T.cap, _, by simp only [execOp, ho, resolve, invoke, builtin, Sem.run_bind, Sem.run_pure, Result.andThen_ok]; simp only [List.map_toArray, List.map_cons, List.map_nil, hvslice]; rw [n2]; rfl, .inl rfl, ?_, q2, q3⟩
      refine .own _ _ _ (rep_list_of (es := ei.size) (cs := olds.toArray ++ news.toArray) (by simp) helall ?_ (fun j v hj => ?_) (by simpa using hroom)) ⟨_, by simp [Gh.grow]; rfl, by simp, fun _ => by simp⟩
      · rw [flat_append]; exact (o1.append n1).mono q1
      · rw [Array.getElem?_append] at hj
        split at hj
        · rename_i hlt
          obtain ⟨b2, o2', e1, e2⟩ := o3 j v (by simpa using hj)
          rw [g1] at e1; cases e1
          exact q1.I _ _ _ e2
        · rename_i hge
          have hjj : news[j - olds.length]? = some v := by simpa using hj
          have hlt2 := (List.getElem?_eq_some_iff.1 hjj).1
          simp only [List.size_toArray] at hge
          simp only [Gh.grow]
          rw [if_pos ⟨trivial, by omega, by rw [Nat.add_mul]; omega⟩, wrV_get (by omega), if_pos (by omega), ← hjj]
          congr 1; omega
    · obtain ⟨cap', news, zs, f1, f2, f3, f4⟩ := run_append_new (ty := o.type) ht hd he hX T.a xs.length T.cap olds hol (fun w' hw' => run_firstCells ei.size _ T.a _ olds hol fun j v hj => by
        obtain ⟨b, o', e1, e2⟩ := o3 j v hj
        refine ⟨_, e1, ?_⟩
        rw [add_at]
        exact (World.cell?_of_block (w := w) (a := ⟨b, o' + j, none⟩) (by rw [hw'])).trans (hi.imm _ _ _ e2)) (by omega) h63 hbb
      have hcr : CR G (flat (xs ++ ys)) (olds.toArray ++ news.toArray) := by rw [flat_append]; exact o1.append f2
      have hsz : (olds.toArray ++ news.toArray ++ zs).size = cap' * ei.size := by
        have h1 := hcr.1
        rw [(flat_get helall).1] at h1
        rw [Array.size_append, h1, f3, hz, ← Nat.add_mul]; congr 1; simp; omega
      have hno : ∀ k, G.I w.heap.size k = none := fun k => by
        cases hI : G.I w.heap.size k with
        | none => rfl
        | some v => have := hi.imm_lt hI; omega
      subst hn
      obtain ⟨q1, q2, q3⟩ := tok_step (w' := w.drew.alloc (.cells (olds.toArray ++ news.toArray ++ zs) e)) (m := xs.length + ys.length) (b := w.heap.size) (o := 0) (cap := cap') (vs := olds.toArray ++ news.toArray ++ zs) (ty := e) hi hg hT k2 (by omega) f1
        (.inr rfl) rfl rfl rfl (by simp) (fun b' hb' _ => Below.heap_alloc w.drew _ _ hb') (heap_alloc_new w.drew _) (by rw [hsz]; omega) 0 (Nat.zero_le _) (fun k v hI => by rw [hno k] at hI; cases hI)
      refine ⟨_, _, .slice (some ⟨w.heap.size, 0, none⟩) (xs.length + ys.length) cap', _, by simp only [execOp, ho, resolve, invoke, builtin, Sem.run_bind, Sem.run_pure, Result.andThen_ok]; simp only [List.map_toArray, List.map_cons, List.map_nil, hv]; rw [f4]; rfl, .inl rfl, ?_, q2, q3⟩
      refine .own _ _ _ (rep_list_of (es := ei.size) (cs := olds.toArray ++ news.toArray) (by simp) helall (hcr.mono q1) (fun j v hj => ?_) (by simpa using f1)) ⟨_, by simp [Gh.grow]; rfl, by simp, fun _ => by simp⟩
      have hlt := (Array.getElem?_eq_some_iff.1 hj).1
      have h2 : (olds.toArray ++ news.toArray).size = (xs.length + ys.length) * ei.size := by rw [hcr.1, (flat_get helall).1, List.length_append]
      simp only [Gh.grow]
      rw [if_pos ⟨trivial, Nat.zero_le _, by omega⟩, Nat.zero_add, Array.getElem?_append, if_pos hlt]
      exact hj
theorem snd_append_own {t t2 e : TypeId} {ti ei : TyI} {s x : Operand} {id es n : Nat} {xs ys : List AV} (ht : C.ty t = some ti) (hd : ti.desc = .slice e) (he : C.ty e = some ei)
    (ho : o.op = .call { callee := .builtin .append, args := #[s, x], argTypes := #[t, t2] }) (hs : ρ s = .own id xs) (hg : σ.get id = some (.tok es n))
    (hsrc : ∀ w0 G a w, Inv C.gl w0 G σ w → Rep G (ρ x) (Act.eval a x) → Src C G w t2 ei.size (a.eval x) ys) :
    Snd C o ρ σ ⟨n = xs.length ∧ es = ei.size ∧ (∀ x ∈ xs, x.cells.length = ei.size) ∧ (∀ x ∈ xs, x.cells.all AV.one = true) ∧ ei.zero.cells.size = ei.size ∧ (xs.length + ys.length) * ei.bytes ≤ 140737488355328 ∧ xs.length + ys.length ≤ 9223372036854775807,
      .own id (xs ++ ys), σ.set id (.tok es (n + ys.length))⟩ := by
  rintro ⟨hn, hes, hel, hone, hz, hbb, h63⟩ w0 G a w hi hr
  have hp := hr s (by simp [ho, Op.operands, Call.operands])
  have hX := hsrc w0 G a w hi (hr x (by simp [ho, Op.operands, Call.operands]))
  rw [hs] at hp
  exact append_own_sem ht hd he ho hg hi hp hX hn hes hel hone hz hbb h63
theorem Rep.fz {G : Gh} {a : AV} {v : Value} (h : Rep G a v) : Rep G (match a with | .own _ xs => .list false xs | a => a) v := by
  cases a with
  | own id xs => cases h with | own _ _ _ h _ => exact h
  | _ => exact h
end ops
theorem own_new {gl : Nat → List AV} {w0 w : World} {G : Gh} {σ : Sto} (hi : Inv gl w0 G σ w) {xs : List AV} {v : Value} (h : Rep G (.list true xs) v) (es : Nat) :
    ∃ G', G.le G' ∧ Rep G' (.own σ.next xs) v ∧ Inv gl w0 G' (σ.add (.tok es xs.length)) w ∧ Ext G σ w G' (σ.add (.tok es xs.length)) w := by
  obtain ⟨a, hv⟩ : ∃ a, v = .slice a xs.length xs.length := by
    cases h with
    | list0 _ a c h => obtain rfl := h rfl; exact ⟨a, rfl⟩
    | list _ _ b o len cap es vs hl hc hf => obtain rfl := hf rfl; subst hl; exact ⟨_, rfl⟩
  have hfr := hi.freshT σ.next (Nat.le_refl _)
  have hle : G.le ⟨G.j, G.I, fun i => if i = σ.next then some ⟨xs.length, a, xs.length⟩ else G.T i⟩ := ⟨fun _ _ h => h, fun _ _ _ h => h, fun i T hT => by
    have hne : i ≠ σ.next := by rintro rfl; rw [hfr] at hT; cases hT
    simp only [if_neg hne]
    exact ⟨T, hT, Nat.le_refl _, fun _ => rfl⟩⟩
  have hgs : ∀ i o', (σ.add (.tok es xs.length)).get i = some o' → (i = σ.next ∧ o' = .tok es xs.length) ∨ (i ≠ σ.next ∧ σ.get i = some o') := fun i o' h => by
    simp only [Sto.add] at h
    split at h
    · rename_i e; cases h; exact .inl ⟨e, rfl⟩
    · rename_i e; exact .inr ⟨e, h⟩
  have up : ∀ i b', TokB ⟨G.j, G.I, fun i => if i = σ.next then some ⟨xs.length, a, xs.length⟩ else G.T i⟩ (σ.add (.tok es xs.length)) i b' → TokB G σ i b' := by
    rintro i b' ⟨es', n', T', o', h1, h2, h3, h4⟩
    simp only at h2
    rcases hgs i _ h1 with ⟨rfl, _⟩ | ⟨hne, h1'⟩
    · rw [if_pos rfl] at h2; cases h2; simp at h3
    · rw [if_neg hne] at h2; exact ⟨es', n', T', o', h1', h2, h3, h4⟩
  have hjn := hi.fresh σ.next (Nat.le_refl _)
  refine ⟨_, hle, .own _ _ _ ?_ ⟨_, by simp; rfl, Nat.le_refl _, fun _ => hv⟩, {
    below := hi.below
    imm := hi.imm
    gl := fun g k c hc => (hi.gl g k c hc).imp fun v hv => ⟨hv.1, hv.2.mono hle⟩
    live := fun i o' h => by
      show i < σ.next + 1
      rcases hgs i o' h with ⟨rfl, _⟩ | ⟨_, h'⟩
      · omega
      · have := hi.live i o' h'; omega
    obj := fun i o' B h1 h2 => by
      have h2' : G.j i = some B := h2
      rcases hgs i o' h1 with ⟨rfl, _⟩ | ⟨_, h'⟩
      · rw [hjn] at h2'; cases h2'
      · obtain ⟨q1, q2⟩ := hi.obj i o' B h' h2'
        exact ⟨q1, q2.keep hle rfl fun _ => rfl⟩
    fresh := fun i h => hi.fresh i (by have : σ.next + 1 ≤ i := h; omega)
    inj := fun i i' o1 o2 B1 B2 h1 h2 h3 h4 h5 => by
      have h3' : G.j i = some B1 := h3
      have h4' : G.j i' = some B2 := h4
      rcases hgs i o1 h1 with ⟨rfl, _⟩ | ⟨_, h1'⟩
      · rw [hjn] at h3'; cases h3'
      · rcases hgs i' o2 h2 with ⟨rfl, _⟩ | ⟨_, h2'⟩
        · rw [hjn] at h4'; cases h4'
        · exact hi.inj i i' o1 o2 B1 B2 h1' h2' h3' h4' h5
    has := fun i o' h1 hnt => by
      rcases hgs i o' h1 with ⟨rfl, rfl⟩ | ⟨_, h1'⟩
      · exact absurd rfl (hnt es xs.length)
      · exact hi.has i o' h1' hnt
    freshT := fun i h => by
      have : σ.next + 1 ≤ i := h
      simp only
      rw [if_neg (by omega)]; exact hi.freshT i (by omega)
    tok := by
      refine ⟨fun i es' n' h1 => ?_, fun i i' b' h1 h2 => hi.tok.inj i i' b' (up _ _ h1) (up _ _ h2), fun i b' h1 i' o' B h2 h3 => ?_⟩
      · rcases hgs i _ h1 with ⟨rfl, e⟩ | ⟨hne, h1'⟩
        · simp only [AObj.tok.injEq] at e
          obtain ⟨rfl, rfl⟩ := e
          exact ⟨_, by simp; rfl, rfl, Nat.le_refl _, fun h => by simp at h⟩
        · obtain ⟨T', k1, k2, k3, k4⟩ := hi.tok.ok i es' n' h1'
          exact ⟨T', by simp only; rw [if_neg hne]; exact k1, k2, k3, k4⟩
      · have h3' : G.j i' = some B := h3
        rcases hgs i' o' h2 with ⟨rfl, _⟩ | ⟨_, h2'⟩
        · rw [hjn] at h3'; cases h3'
        · exact hi.tok.oj i b' (up _ _ h1) i' o' B h2' h3' }, {
    le := hle
    size := Nat.le_refl _
    keep := fun b' hb' hn => ⟨rfl, fun _ => rfl, by
      rintro (⟨i, o', B, h1, h2, h3⟩ | ⟨i, h1⟩)
      · have h2' : G.j i = some B := h2
        rcases hgs i o' h1 with ⟨rfl, _⟩ | ⟨_, h1'⟩
        · rw [hjn] at h2'; cases h2'
        · exact hn (.inl ⟨i, o', B, h1', h2', h3⟩)
      · exact hn (.inr ⟨i, up _ _ h1⟩)⟩
    next := Nat.le_succ _ }⟩
  have h' : Rep G (.list false xs) v := by
    cases h with
    | list0 _ a c h => exact .list0 _ _ _ (fun e => by cases e)
    | list _ _ b o len cap es vs hl hc hf hs hI hvv => exact .list _ _ b o len cap es vs hl hc (fun e => by cases e) hs hI hvv
  exact h'.mono hle
section ops
variable {C : Cx} {o : Oper} {ρ : Operand → AV} {σ : Sto}
theorem snd_append_full' {t t2 e : TypeId} {ti ei : TyI} {s x : Operand} {xs ys : List AV} (ht : C.ty t = some ti) (hd : ti.desc = .slice e) (he : C.ty e = some ei)
    (ho : o.op = .call { callee := .builtin .append, args := #[s, x], argTypes := #[t, t2] }) (hs : ρ s = .list true xs)
    (hsrc : ∀ w0 G a w, Inv C.gl w0 G σ w → Rep G (ρ x) (Act.eval a x) → Src C G w t2 ei.size (a.eval x) ys) :
    Snd C o ρ σ ⟨(∀ x ∈ xs, x.cells.length = ei.size) ∧ (∀ x ∈ xs, x.cells.all AV.one = true) ∧ ei.zero.cells.size = ei.size ∧ (xs.length + ys.length) * ei.bytes ≤ 140737488355328 ∧ xs.length + ys.length ≤ 9223372036854775807,
      .own σ.next (xs ++ ys), σ.add (.tok ei.size (xs.length + ys.length))⟩ := by
  rintro ⟨hel, hone, hz, hbb, h63⟩ w0 G a w hi hr
  have hp := hr s (by simp [ho, Op.operands, Call.operands])
  have hX := hsrc w0 G a w hi (hr x (by simp [ho, Op.operands, Call.operands]))
  rw [hs] at hp
  obtain ⟨G1, k1, k2, k3, k4⟩ := own_new hi hp ei.size
  obtain ⟨G2, nx, v', w', q1, q2, q3, q4, q5⟩ := append_own_sem (σ := σ.add (.tok ei.size xs.length)) (n := xs.length) ht hd he ho (by simp [Sto.add]) k3 k2 (hX.mono k1) rfl rfl hel hone hz hbb h63
  have e : (σ.add (.tok ei.size xs.length)).set σ.next (.tok ei.size (xs.length + ys.length)) = σ.add (.tok ei.size (xs.length + ys.length)) := by
    simp only [Sto.set, Sto.add, Sto.mk.injEq, and_true]
    funext i
    split <;> rfl
  rw [e] at q4 q5
  exact ⟨G2, nx, v', w', q1, q2, q3, q4, k4.trans q5⟩
end ops
end Go.Lg
