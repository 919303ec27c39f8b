/- Lg, part H3: maps with plain keys. -/
import Derived.Test.YtndchmmclfidgaaDoorLgH2
import Derived.MapKept
import Derived.Laws.StructEq
set_option linter.unusedVariables false
set_option linter.unusedSimpArgs false
namespace Go.Lg
open Go.RowKit

theorem Rep.pv1 {G : Gh} {a : AV} {v u : Value} (h : Rep G a v) (hp : a.pv1 = some u) : v = u := by
  cases h <;> simp [AV.pv1] at hp <;> exact hp
theorem pvL_get : ∀ {l : List AV} {vs : List Value}, AV.pvL l = some vs → vs.length = l.length ∧ ∀ (i : Nat) (c : AV), l[i]? = some c → ∃ u, vs[i]? = some u ∧ c.pv1 = some u
  | [], vs, h => by simp only [AV.pvL, Option.some.injEq] at h; subst h; exact ⟨rfl, fun i c hc => by simp at hc⟩
  | a :: l, vs, h => by
    simp only [AV.pvL] at h
    split at h
    · rename_i v vs' h1 h2
      simp only [Option.some.injEq] at h; subst h
      obtain ⟨k1, k2⟩ := pvL_get h2
      refine ⟨by simp [k1], fun i c hc => ?_⟩
      cases i with
      | zero => simp only [List.getElem?_cons_zero, Option.some.injEq] at hc; subst hc; exact ⟨v, rfl, h1⟩
      | succ i => exact k2 i c (by simpa using hc)
    · cases h
theorem Rep.pv {G : Gh} {a : AV} {v u : Value} (h : Rep G a v) (hp : a.pv = some u) : v = u := by
  cases h with
  | agg cs vs hl hv =>
    simp only [AV.pv, Option.map_eq_some_iff] at hp
    obtain ⟨us, h1, rfl⟩ := hp
    obtain ⟨k1, k2⟩ := pvL_get h1
    congr 1
    refine Array.ext (by simp [hl, k1]) fun i hi hi' => ?_
    have hi2 : i < cs.length := by omega
    obtain ⟨u, g1, g2⟩ := k2 i _ (List.getElem?_eq_getElem hi2)
    have := (hv i _ vs[i] (List.getElem?_eq_getElem hi2) (Array.getElem?_eq_getElem hi)).pv1 g2
    rw [this]
    rw [List.getElem?_eq_some_iff] at g1
    obtain ⟨_, g1⟩ := g1
    simp [g1]
  | bool b => simpa [AV.pv, AV.pv1] using hp
  | int k n => simpa [AV.pv, AV.pv1] using hp
  | str s => simpa [AV.pv, AV.pv1] using hp
  | _ => simp [AV.pv, AV.pv1] at hp
theorem rep_pv1 (G : Gh) {a : AV} {u : Value} (hp : a.pv1 = some u) : Rep G a u := by
  cases a <;> simp [AV.pv1] at hp <;> subst hp
  · exact .bool _
  · exact .int _ _
  · exact .str _

/-! ### Shapes and equality of plain values -/
def AV.shp1 : AV → AV
  | .bool _ => .bool false
  | .int k _ => .int k 0
  | .str _ => .str ByteArray.empty
  | _ => .undef
def AV.shp : AV → AV
  | .agg cs => .agg (cs.map AV.shp1)
  | a => a.shp1
def peq1 : AV → AV → Bool
  | .bool a, .bool b => a == b
  | .int _ a, .int _ b => a == b
  | .str a, .str b => a == b
  | _, _ => false
def peqL : List AV → List AV → Bool
  | [], [] => true
  | a :: l, b :: l' => peq1 a b && peqL l l'
  | _, _ => false
def AV.peq : AV → AV → Bool
  | .agg xs, .agg ys => peqL xs ys
  | a, b => peq1 a b

theorem ba_beq {a b : ByteArray} : (a == b) = true ↔ a = b := by
  obtain ⟨x⟩ := a
  obtain ⟨y⟩ := b
  show (x == y) = true ↔ _
  simp
theorem peq1_eq {a b : AV} {v u : Value} (hs : a.shp1 = b.shp1) (ha : a.pv1 = some v) (hb : b.pv1 = some u) (h : peq1 a b = true) : v = u := by
  cases a <;> simp [AV.pv1] at ha <;> cases b <;> simp [AV.pv1, peq1, AV.shp1] at * <;> subst ha <;> subst hb
  · rw [h]
  · rw [h, hs]
  · rw [ba_beq.1 h]
theorem peqL_eq : ∀ {l l' : List AV} {vs us : List Value}, l.map AV.shp1 = l'.map AV.shp1 → AV.pvL l = some vs → AV.pvL l' = some us → peqL l l' = true → vs = us
  | [], [], vs, us, _, h1, h2, _ => by simp only [AV.pvL, Option.some.injEq] at h1 h2; rw [← h1, ← h2]
  | [], _ :: _, _, _, hs, _, _, _ => by simp at hs
  | _ :: _, [], _, _, hs, _, _, _ => by simp at hs
  | a :: l, b :: l', vs, us, hs, h1, h2, h => by
    simp only [List.map_cons, List.cons.injEq] at hs
    simp only [peqL, Bool.and_eq_true] at h
    simp only [AV.pvL] at h1 h2
    split at h1
    · rename_i v vs' g1 g2
      split at h2
      · rename_i u us' k1 k2
        simp only [Option.some.injEq] at h1 h2
        rw [← h1, ← h2, peq1_eq hs.1 g1 k1 h.1, peqL_eq hs.2 g2 k2 h.2]
      · cases h2
    · cases h1
theorem peq_eq {a b : AV} {v u : Value} (hs : a.shp = b.shp) (ha : a.pv = some v) (hb : b.pv = some u) (h : a.peq b = true) : v = u := by
  cases a <;> cases b <;> first
    | (simp [AV.pv, AV.pv1] at ha; done)
    | (simp [AV.pv, AV.pv1] at hb; done)
    | (simp [AV.shp, AV.shp1] at hs; done)
    | exact peq1_eq (a := .bool _) (b := .bool _) hs ha hb h
    | exact peq1_eq (a := .int _ _) (b := .int _ _) hs ha hb h
    | exact peq1_eq (a := .str _) (b := .str _) hs ha hb h
    | skip
  · simp only [AV.shp, AV.agg.injEq] at hs
    simp only [AV.pv, Option.map_eq_some_iff] at ha hb
    obtain ⟨l, h1, rfl⟩ := ha
    obtain ⟨l', h2, rfl⟩ := hb
    rw [peqL_eq hs h1 h2 h]

/-- Keys of type t and of this shape: they can be hashed, and == on them is equality. -/
structure KeyOK (C : Cx) (t : TypeId) (s : AV) : Prop where
  now : ∃ d, C.P.underlying t = some d ∧ ((∀ a b v u, AV.shp a = s → AV.shp b = s → a.pv = some v → b.pv = some u → Instr.sameNow d v u = some (a.peq b)) ∨
    (∀ a b v u, AV.shp a = s → AV.shp b = s → a.pv = some v → b.pv = some u → Instr.sameNow d v u = none))
  chk : ∀ e a v w, AV.shp a = s → a.pv = some v → (Instr.checkKey e 10000 t v).run C.P w = .ok () w
  eq : ∀ a b v u w, AV.shp a = s → AV.shp b = s → a.pv = some v → b.pv = some u → (Op.equal t v u).run C.P w = .ok (a.peq b) w

def mfind (k : AV) : List (AV × AV) → Option Nat
  | [] => none
  | e :: es => if k.peq e.1 = true then some 0 else (mfind k es).map (· + 1)
def mget (k : AV) : List (AV × AV) → Option AV
  | [] => none
  | e :: es => if k.peq e.1 = true then some e.2 else mget k es
def mput (k v : AV) : List (AV × AV) → List (AV × AV)
  | [] => [(k, v)]
  | e :: es => if k.peq e.1 = true then (k, v) :: es else e :: mput k v es
theorem mfind_lt {k : AV} : ∀ {es : List (AV × AV)} {j : Nat}, mfind k es = some j → j < es.length ∧ mget k es = (es[j]?).map (·.2) ∧ (∀ v, mput k v es = es.set j (k, v)) ∧ ∃ e, es[j]? = some e ∧ k.peq e.1 = true
  | [], j, h => by cases h
  | e :: es, j, h => by
    simp only [mfind] at h
    by_cases hp : k.peq e.1 = true
    · simp only [hp, if_true, Option.some.injEq] at h; subst h
      simp [mget, mput, hp]
    · rw [if_neg hp, Option.map_eq_some_iff] at h
      obtain ⟨j', h1, rfl⟩ := h
      obtain ⟨k1, k2, k3, k4⟩ := mfind_lt h1
      simp only [Bool.not_eq_true] at hp
      refine ⟨by simp; omega, by simp [mget, hp, k2], fun v => by simp [mput, hp, k3], by simpa using k4⟩
theorem mfind_none {k : AV} : ∀ {es : List (AV × AV)}, mfind k es = none → mget k es = none ∧ ∀ v, mput k v es = es ++ [(k, v)]
  | [], h => ⟨rfl, fun v => rfl⟩
  | e :: es, h => by
    simp only [mfind] at h
    by_cases hp : k.peq e.1 = true
    · simp [hp] at h
    · rw [if_neg hp, Option.map_eq_none_iff] at h
      obtain ⟨k2, k3⟩ := mfind_none h
      simp only [Bool.not_eq_true] at hp
      exact ⟨by simp [mget, hp, k2], fun v => by simp [mput, hp, k3]⟩

section
variable {C : Cx} {t : TypeId} {s : AV}
theorem find_now {d : TypeDesc} (hd : ∀ a b v u, AV.shp a = s → AV.shp b = s → a.pv = some v → b.pv = some u → Instr.sameNow d v u = some (a.peq b)) {k : AV} {kv : Value} (hk : k.shp = s) (hkv : k.pv = some kv) :
    ∀ (es : List (AV × AV)) (xs : List MapEntry) (n : Nat), xs.length = es.length → (∀ (i : Nat) (e : AV × AV), es[i]? = some e → e.1.shp = s ∧ ∃ m, xs[i]? = some m ∧ e.1.pv = some m.key) →
      Instr.findNow d kv xs n = some ((mfind k es).map fun j => (n + j, ((xs[j]?).getD default).val))
  | [], [], n, _, _ => rfl
  | [], _ :: _, _, h, _ => by simp at h
  | _ :: _, [], _, h, _ => by simp at h
  | e :: es, x :: xs, n, hl, h => by
    obtain ⟨h1, m, h2, h3⟩ := h 0 e rfl
    simp only [List.getElem?_cons_zero, Option.some.injEq] at h2; subst h2
    have ih := find_now hd hk hkv es xs (n + 1) (by simpa using hl) (fun i e he => h (i + 1) e (by simpa using he))
    simp only [Instr.findNow, hd k e.1 kv x.key hk h1 hkv h3, mfind]
    by_cases hp : k.peq e.1 = true
    · simp [hp]
    · simp only [Bool.not_eq_true] at hp
      simp only [hp, ih, Bool.false_eq_true, if_false, Option.map_map, Option.some.injEq]
      congr 1
      funext j
      simp; omega
theorem find_none {d : TypeDesc} (hd : ∀ a b v u, AV.shp a = s → AV.shp b = s → a.pv = some v → b.pv = some u → Instr.sameNow d v u = none) {k : AV} {kv : Value} (hk : k.shp = s) (hkv : k.pv = some kv) :
    ∀ (es : List (AV × AV)) (xs : List MapEntry) (n : Nat), xs.length = es.length → (∀ (i : Nat) (e : AV × AV), es[i]? = some e → e.1.shp = s ∧ ∃ m, xs[i]? = some m ∧ e.1.pv = some m.key) →
      Instr.findNow d kv xs n = if es = [] then some none else none
  | [], [], n, _, _ => rfl
  | [], _ :: _, _, h, _ => by simp at h
  | _ :: _, [], _, h, _ => by simp at h
  | e :: es, x :: xs, n, hl, h => by
    obtain ⟨h1, m, h2, h3⟩ := h 0 e rfl
    simp only [List.getElem?_cons_zero, Option.some.injEq] at h2; subst h2
    simp only [Instr.findNow, hd k e.1 kv x.key hk h1 hkv h3, reduceCtorEq, if_false]
theorem find_asking (K : KeyOK C t s) {k : AV} {kv : Value} (hk : k.shp = s) (hkv : k.pv = some kv) (w : World) :
    ∀ (es : List (AV × AV)) (xs : List MapEntry) (n : Nat), xs.length = es.length → (∀ (i : Nat) (e : AV × AV), es[i]? = some e → e.1.shp = s ∧ ∃ m, xs[i]? = some m ∧ e.1.pv = some m.key) →
      (Instr.findAsking t kv xs n).run C.P w = .ok ((mfind k es).map fun j => (n + j, ((xs[j]?).getD default).val)) w
  | [], [], n, _, _ => rfl
  | [], _ :: _, _, h, _ => by simp at h
  | _ :: _, [], _, h, _ => by simp at h
  | e :: es, x :: xs, n, hl, h => by
    obtain ⟨h1, m, h2, h3⟩ := h 0 e rfl
    simp only [List.getElem?_cons_zero, Option.some.injEq] at h2; subst h2
    have ih := find_asking K hk hkv w es xs (n + 1) (by simpa using hl) (fun i e he => h (i + 1) e (by simpa using he))
    simp only [Instr.findAsking, Sem.run_bind, K.eq k e.1 kv x.key w hk h1 hkv h3, Result.andThen_ok, mfind]
    by_cases hp : k.peq e.1 = true
    · simp [hp]
    · simp only [Bool.not_eq_true] at hp
      simp only [hp, ih, Bool.false_eq_true, if_false, Option.map_map]
      congr 2
      funext j
      simp; omega
theorem find_key (K : KeyOK C t s) {k : AV} {kv : Value} (hk : k.shp = s) (hkv : k.pv = some kv) (w : World) (es : List (AV × AV)) (xs : List MapEntry) (hl : xs.length = es.length)
    (h : ∀ (i : Nat) (e : AV × AV), es[i]? = some e → e.1.shp = s ∧ ∃ m, xs[i]? = some m ∧ e.1.pv = some m.key) :
    (Instr.findKey t kv xs).run C.P w = .ok ((mfind k es).map fun j => (j, ((xs[j]?).getD default).val)) w := by
  obtain ⟨d, hd, hn⟩ := K.now
  simp only [Instr.findKey, Sem.run_bind, run_underlying hd, Result.andThen_ok]
  rcases hn with hn | hn
  · rw [find_now hn hk hkv es xs 0 hl h]
    simp
  · rw [find_none hn hk hkv es xs 0 hl h]
    by_cases e : es = []
    · subst e; simp [mfind]
    · rw [if_neg e]
      simp only
      rw [find_asking K hk hkv w es xs 0 hl h]
      simp
end

/-! ### The operations -/
section
variable {C : Cx} {ρ : Operand → AV} {σ : Sto} {o : Oper}
theorem ents_of {G : Gh} {s : AV} {es : List (AV × AV)} {xs : Array MapEntry} (hs : ∀ e ∈ es, e.1.shp = s) (h : ∀ (i : Nat) (e : AV × AV), es[i]? = some e → ∃ m : MapEntry, xs[i]? = some m ∧ e.1.pv = some m.key ∧ Rep G e.2 m.val) :
    ∀ (i : Nat) (e : AV × AV), es[i]? = some e → e.1.shp = s ∧ ∃ m, xs.toList[i]? = some m ∧ e.1.pv = some m.key := fun i e he => by
  obtain ⟨m, h1, h2, _⟩ := h i e he
  exact ⟨hs e (List.mem_of_getElem? he), m, by rw [Array.getElem?_toList]; exact h1, h2⟩

theorem snd_makeMap {t : TypeId} {r : Option Operand} (hr : r = none) (ho : o.op = .makeMap t r) : Snd C o ρ σ ⟨True, .map σ.next, σ.add (.mp [])⟩ := by
  intro hc w0 G a w hi hx
  subst hr
  have hle := Gh.le_new (G := G) (id := σ.next) ⟨w.heap.size, 0, 0, 0⟩ (hi.fresh _ (Nat.le_refl _))
  refine ⟨G.new σ.next ⟨w.heap.size, 0, 0, 0⟩, .value (.map (some w.heap.size)), _, w.alloc (.map #[] 0), ?_, .inl rfl, .map _ ⟨w.heap.size, 0, 0, 0⟩ (by simp [Gh.new]), ?_, Ext.new hi (σ.next + 1) _ _ _ (by omega) rfl⟩
  · simp [execOp, ho, Instr.makeMap, newObj, Sem.run]
  · refine Inv.new hi σ.next (σ.next + 1) (.mp []) _ _ (by omega) (by omega) (hi.fresh _ (Nat.le_refl _)) rfl ?_
    refine ⟨#[], 0, heap_alloc_new w _, rfl, fun i e he => by simp at he, fun k => ?_⟩
    show G.I w.heap.size k = none
    cases hI : G.I w.heap.size k with
    | none => rfl
    | some v => have := hi.imm_lt hI; omega

def lookA (zero : AV) (r : Option AV) (ok : Bool) : AV := if ok = true then .tup [r.getD zero, .bool r.isSome] else r.getD zero
theorem rep_lookA {G : Gh} {zero : AV} {zv : Value} {r : Option AV} {rv : Option Value} (ok : Bool) (hz : Rep G zero zv) (h : match r, rv with | some a, some v => Rep G a v | none, none => True | _, _ => False) :
    Rep G (lookA zero r ok) (if ok = true then .tuple #[rv.getD zv, .bool rv.isSome] else rv.getD zv) := by
  have h1 : Rep G (r.getD zero) (rv.getD zv) := by
    cases r <;> cases rv <;> first | exact h.elim | exact hz | exact h
  have h2 : rv.isSome = r.isSome := by cases r <;> cases rv <;> first | exact h.elim | rfl
  cases ok with
  | false => simpa [lookA] using h1
  | true =>
    simp only [lookA, if_true]
    refine .tup _ _ rfl fun i c v hc hv => ?_
    match i with
    | 0 => simp at hc hv; subst hc; subst hv; exact h1
    | 1 => simp at hc hv; subst hc; subst hv; rw [h2]; exact .bool _
    | i + 2 => simp at hc

theorem snd_lookup {t kt et : TypeId} {ti ei : TyI} {x ix : Operand} {id : Nat} {es : List (AV × AV)} {ok : Bool} (ht : C.ty t = some ti) (hd : ti.desc = .map kt et) (he : C.ty et = some ei) (ho : o.op = .lookup t x ix ok)
    (hx : ρ x = .map id) (hs : σ.get id = some (.mp es)) :
    Snd C o ρ σ ⟨KeyOK C kt (ρ ix).shp ∧ (ρ ix).pv.isSome = true ∧ ∀ e ∈ es, e.1.shp = (ρ ix).shp, lookA (ofV ei.zero) (mget (ρ ix) es) ok, σ⟩ :=
  snd_pure fun ⟨K, hp, hsh⟩ w0 G a w hi hr => by
    have hm := hr x (by simp [ho, Op.operands])
    have hk := hr ix (by simp [ho, Op.operands])
    obtain ⟨kv, hkv⟩ := Option.isSome_iff_exists.1 hp
    have ek := hk.pv hkv
    rw [hx] at hm
    cases hv : a.eval x with
    | map r =>
      rw [hv] at hm
      cases hm with
      | map _ B hj =>
        obtain ⟨_, xs, clock, h1, h2, h3, h4⟩ := hi.obj id _ B hs hj
        have hf := find_key K rfl hkv w es xs.toList (by simpa using h2) (ents_of hsh h3)
        refine ⟨if ok = true then .tuple #[((mfind (ρ ix) es).map fun j => ((xs[j]?).getD default).val).getD ei.zero, .bool ((mfind (ρ ix) es).map fun j => ((xs[j]?).getD default).val).isSome] else ((mfind (ρ ix) es).map fun j => ((xs[j]?).getD default).val).getD ei.zero, ?_, rep_lookA ok (rep_ofV G _) ?_⟩
        · have hund := C.run_und ht w
          rw [hd] at hund
          simp only [execOp, ho, Instr.lookup, Sem.run_bind, hund, Result.andThen_ok, hv, MapKept.run_getObj_map h1, Sem.run_pure, ek, K.chk _ _ _ w rfl hkv, hf]
          cases hmf : mfind (ρ ix) es with
          | none => simp [hmf, C.run_zero he, Result.andThen]
          | some j => simp [hmf, Result.andThen]
        · cases hmf : mfind (ρ ix) es with
          | none => rw [(mfind_none hmf).1]; trivial
          | some j =>
            obtain ⟨k1, k2, k3, _⟩ := mfind_lt hmf
            obtain ⟨m, g1, g2, g3⟩ := h3 j _ (List.getElem?_eq_getElem k1)
            rw [k2, List.getElem?_eq_getElem k1]
            simp only [Option.map_some, g1, Option.getD_some]
            exact g3
    | _ => rw [hv] at hm; cases hm

theorem snd_lookup_nil {t kt et : TypeId} {ti ei : TyI} {x ix : Operand} {ok : Bool} (ht : C.ty t = some ti) (hd : ti.desc = .map kt et) (he : C.ty et = some ei) (ho : o.op = .lookup t x ix ok)
    (hx : ρ x = .nilm) : Snd C o ρ σ ⟨KeyOK C kt (ρ ix).shp ∧ (ρ ix).pv.isSome = true, lookA (ofV ei.zero) none ok, σ⟩ :=
  snd_pure fun ⟨K, hp⟩ w0 G a w hi hr => by
    have hm := hr x (by simp [ho, Op.operands])
    have hk := hr ix (by simp [ho, Op.operands])
    obtain ⟨kv, hkv⟩ := Option.isSome_iff_exists.1 hp
    have ek := hk.pv hkv
    rw [hx] at hm
    cases hv : a.eval x with
    | map r =>
      rw [hv] at hm
      cases hm with
      | nilm =>
        have hf := find_key K rfl hkv w [] [] rfl (fun i e he => by simp at he)
        refine ⟨if ok = true then .tuple #[ei.zero, .bool false] else ei.zero, ?_, rep_lookA (r := none) (rv := none) ok (rep_ofV G _) trivial⟩
        have hund := C.run_und ht w
        rw [hd] at hund
        simp only [execOp, ho, Instr.lookup, Sem.run_bind, hund, Result.andThen_ok, hv, Sem.run_pure, ek, K.chk _ _ _ w rfl hkv]
        simp [hf, mfind, C.run_zero he, Result.andThen]
    | _ => rw [hv] at hm; cases hm

theorem sameBits1 {a : AV} {v : Value} (n : Nat) (h : a.pv1 = some v) : Instr.sameBits n v v = true := by
  cases a <;> simp [AV.pv1] at h <;> subst h <;> cases n <;> simp [Instr.sameBits, ba_beq]
theorem sameBitsL (n : Nat) : ∀ {l : List AV} {vs : List Value}, AV.pvL l = some vs → (vs.zip vs).all (fun (x, y) => Instr.sameBits n x y) = true
  | [], vs, h => by simp only [AV.pvL, Option.some.injEq] at h; subst h; rfl
  | a :: l, vs, h => by
    simp only [AV.pvL] at h
    split at h
    · rename_i v vs' g1 g2
      simp only [Option.some.injEq] at h; subst h
      simp only [List.zip_cons_cons, List.all_cons, sameBits1 n g1, sameBitsL n g2, Bool.and_self]
    · cases h
theorem sameBits_pv {a : AV} {v : Value} (h : a.pv = some v) : Instr.sameBits 10000 v v = true := by
  have e : (10000 : Nat) = 9999 + 1 := rfl
  rw [e]
  generalize 9999 = n
  cases a with
  | agg cs =>
    simp only [AV.pv, Option.map_eq_some_iff] at h
    obtain ⟨l, h1, rfl⟩ := h
    simp only [Instr.sameBits, beq_self_eq_true, Bool.true_and]
    exact sameBitsL n h1
  | _ => exact sameBits1 _ (by simpa [AV.pv] using h)

theorem snd_mapUpdate {t kt et : TypeId} {ti : TyI} {x k y : Operand} {id : Nat} {es : List (AV × AV)} (ht : C.ty t = some ti) (hd : ti.desc = .map kt et) (ho : o.op = .mapUpdate t x k y ∨ o.op = .insert t x k y)
    (hx : ρ x = .map id) (hs : σ.get id = some (.mp es)) :
    Snd C o ρ σ ⟨KeyOK C kt (ρ k).shp ∧ (ρ k).pv.isSome = true ∧ ∀ e ∈ es, e.1.shp = (ρ k).shp, .undef, σ.set id (.mp (mput (ρ k) (ρ y) es))⟩ := by
  rintro ⟨K, hp, hsh⟩ w0 G a w hi hr
  have hm := hr x (by rcases ho with ho | ho <;> simp [ho, Op.operands])
  have hk := hr k (by rcases ho with ho | ho <;> simp [ho, Op.operands])
  have hy := hr y (by rcases ho with ho | ho <;> simp [ho, Op.operands])
  obtain ⟨kv, hkv⟩ := Option.isSome_iff_exists.1 hp
  have ek := hk.pv hkv
  rw [hx] at hm
  cases hv : a.eval x with
  | map r =>
    rw [hv] at hm
    cases hm with
    | map _ B hj =>
      obtain ⟨_, xs, clock, h1, h2, h3, h4⟩ := hi.obj id _ B hs hj
      have hf := find_key K rfl hkv w es xs.toList (by simpa using h2) (ents_of hsh h3)
      have hund := C.run_und ht w
      rw [hd] at hund
      suffices hh : ∃ xs' clock', (Instr.mapUpdate t (.map (some B.b)) kv (a.eval y)).run C.P w = .ok () (w.putObj B.b (.map xs' clock')) ∧ xs'.size = (mput (ρ k) (ρ y) es).length ∧
          ∀ (i : Nat) (e : AV × AV), (mput (ρ k) (ρ y) es)[i]? = some e → ∃ m : MapEntry, xs'[i]? = some m ∧ e.1.pv = some m.key ∧ Rep G e.2 m.val by
        obtain ⟨xs', clock', g1, g2, g3⟩ := hh
        have hlt := (Array.getElem?_eq_some_iff.1 h1).1
        refine ⟨G, .skip, undef, w.putObj B.b (.map xs' clock'), by rcases ho with ho | ho <;> simp [execOp, ho, hv, ek, g1], .inr ⟨rfl, rfl⟩, .undef _, ?_, ?_⟩
        · refine Inv.set hi id _ _ B hs hj rfl rfl rfl (by simp) (fun b' hb' => World.putObj_heap_other hb') (fun k' v' hk' => by rw [h4 k'] at hk'; cases hk') ?_
          exact ⟨xs', clock', World.putObj_heap_same hlt, g2, g3, h4⟩
        · exact Ext.set id _ _ B hs hj (by simp) (fun b' hb' => World.putObj_heap_other hb')
      cases hmf : mfind (ρ k) es with
      | none =>
        obtain ⟨_, e2⟩ := mfind_none hmf
        refine ⟨xs.push { key := kv, val := a.eval y, born := clock }, clock + 1, ?_, ?_, ?_⟩
        · simp only [Instr.mapUpdate, Sem.run_bind, hund, Result.andThen_ok, MapKept.run_getObj_map h1, K.chk _ _ _ w rfl hkv, hf, hmf, Option.map_none]
          rw [MapKept.run_setObj_map _ h1]
          rfl
        · rw [e2]; simp [h2]
        · intro i e hie
          rw [e2] at hie
          by_cases hlt : i < es.length
          · rw [List.getElem?_append_left hlt] at hie
            obtain ⟨m, q1, q2⟩ := h3 i e hie
            refine ⟨m, ?_, q2⟩
            rw [Array.getElem?_push, if_neg (by omega)]; exact q1
          · rw [List.getElem?_append_right (by omega)] at hie
            by_cases e0 : i = es.length
            · subst e0
              simp at hie; subst hie
              exact ⟨_, by rw [Array.getElem?_push, if_pos h2.symm], hkv, hy⟩
            · rw [List.getElem?_eq_none (by simp; omega)] at hie; cases hie
      | some j =>
        obtain ⟨k1, _, e2, e0, ej, hpq⟩ := mfind_lt hmf
        obtain ⟨m, q1, q2, q3⟩ := h3 j _ ej
        have hkk : m.key = kv := (peq_eq (hsh e0 (List.mem_of_getElem? ej)).symm hkv q2 hpq).symm
        refine ⟨xs.modify j fun e => { e with key := kv, val := a.eval y }, clock, ?_, ?_, ?_⟩
        · simp only [Instr.mapUpdate, Sem.run_bind, hund, Result.andThen_ok, MapKept.run_getObj_map h1, K.chk _ _ _ w rfl hkv, hf, hmf, Option.map_some, q1, Option.getD_some, Instr.keyThatStays, hkk, sameBits_pv hkv, if_true, Sem.run_pure]
          rw [MapKept.run_setObj_map _ h1]
          rfl
        · rw [e2]; simp [h2]
        · intro i e hie
          rw [e2, List.getElem?_set] at hie
          rw [Array.getElem?_modify]
          by_cases e1 : j = i
          · subst e1
            rw [if_pos rfl, if_pos k1] at hie
            cases hie
            rw [if_pos rfl, q1]
            exact ⟨_, rfl, hkv, hy⟩
          · rw [if_neg e1] at hie ⊢
            exact h3 i e hie
  | _ => rw [hv] at hm; cases hm

theorem snd_len_map {t kt et : TypeId} {ti : TyI} {x : Operand} {id : Nat} {es : List (AV × AV)} (ht : C.ty t = some ti) (hd : ti.desc = .map kt et) (ho : o.op = .call { callee := .builtin .len, args := #[x], argTypes := #[t] })
    (hx : ρ x = .map id) (hs : σ.get id = some (.mp es)) : Snd C o ρ σ ⟨True, .int .i64 es.length, σ⟩ :=
  snd_pure fun _ w0 G a w hi hr => by
    have hp := hr x (by simp [ho, Op.operands, Call.operands])
    rw [hx] at hp
    cases hv : a.eval x with
    | map r =>
      rw [hv] at hp
      cases hp with
      | map _ B hj =>
        obtain ⟨_, xs, clock, h1, h2, h3, h4⟩ := hi.obj id _ B hs hj
        exact ⟨_, by simp [execOp, ho, resolve, invoke, builtin, Builtin.len_, C.run_und ht, hd, hv, goInt, MapKept.run_getObj_map h1, h2, Result.andThen], .int _ _⟩
    | _ => rw [hv] at hp; cases hp

/-- == on structs and arrays of plain values. -/
theorem snd_bin_agg {op : BinOp} {t t' : TypeId} {x y : Operand} {cs ds : List AV} (ho : o.op = .binOp op t x y t') (hx : ρ x = .agg cs) (hy : ρ y = .agg ds) :
    Snd C o ρ σ ⟨(KeyOK C t (AV.agg cs).shp ∧ C.P.eqGuardType C.P.depth t = false ∧ (AV.agg ds).shp = (AV.agg cs).shp ∧ (AV.agg cs).pv.isSome = true ∧ (AV.agg ds).pv.isSome = true) ∧ (op = .eql ∨ op = .neq),
      .bool (if op = .eql then peqL cs ds else !peqL cs ds), σ⟩ :=
  snd_pure fun ⟨⟨K, hg, hsh, hp1, hp2⟩, hop⟩ w0 G a w hi hr => by
    obtain ⟨v1, g1⟩ := Option.isSome_iff_exists.1 hp1
    obtain ⟨v2, g2⟩ := Option.isSome_iff_exists.1 hp2
    have e1 := hr x (by simp [ho, Op.operands])
    rw [hx] at e1
    have k1 := e1.pv g1
    have e2 := hr y (by simp [ho, Op.operands])
    rw [hy] at e2
    have k2 := e2.pv g2
    have hq := K.eq (.agg cs) (.agg ds) v1 v2 w rfl hsh g1 g2
    simp only [AV.pv, Option.map_eq_some_iff] at g1 g2
    obtain ⟨l1, _, rfl⟩ := g1
    obtain ⟨l2, _, rfl⟩ := g2
    simp only [AV.peq] at hq
    rcases hop with rfl | rfl
    · exact ⟨.bool (peqL cs ds), by simp [execOp, ho, k1, k2, eqGuard, binOp, hq, hg, Result.andThen], .bool _⟩
    · exact ⟨.bool (!peqL cs ds), by simp [execOp, ho, k1, k2, eqGuard, binOp, hq, hg, Result.andThen], .bool _⟩
end
/-! ### Plain types -/
theorem keyOK_int {C : Cx} {t : TypeId} {i : TyI} {k q : IntKind} (ht : C.ty t = some i) (hd : i.desc = .int q) : KeyOK C t (.int k 0) := by
  have hu := (C.ok t i ht).1
  rw [hd] at hu
  have inv : ∀ a v, AV.shp a = .int k 0 → a.pv = some v → ∃ n, a = .int k n ∧ v = .int k n := by
    intro a v h1 h2
    cases a <;> simp [AV.shp, AV.shp1] at h1
    subst h1
    simp [AV.pv, AV.pv1] at h2
    exact ⟨_, rfl, h2.symm⟩
  refine ⟨⟨_, hu, .inl fun a b v u h1 h2 h3 h4 => ?_⟩, fun e a v w h1 h2 => ?_, fun a b v u w h1 h2 h3 h4 => ?_⟩
  · obtain ⟨n, rfl, rfl⟩ := inv _ _ h1 h3
    obtain ⟨m, rfl, rfl⟩ := inv _ _ h2 h4
    simp [Instr.sameNow, AV.peq, peq1]
  · obtain ⟨n, rfl, rfl⟩ := inv _ _ h1 h2
    have e : (10000 : Nat) = 9999 + 1 := rfl
    rw [e]
    generalize 9999 = d
    simp [Instr.checkKey, run_underlying hu]
  · obtain ⟨n, rfl, rfl⟩ := inv _ _ h1 h3
    obtain ⟨m, rfl, rfl⟩ := inv _ _ h2 h4
    exact run_equalIn_int w 9999 t k q n m hu
theorem keyOK_bool {C : Cx} {t : TypeId} {i : TyI} (ht : C.ty t = some i) (hd : i.desc = .bool) : KeyOK C t (.bool false) := by
  have hu := (C.ok t i ht).1
  rw [hd] at hu
  have inv : ∀ a v, AV.shp a = .bool false → a.pv = some v → ∃ n, a = .bool n ∧ v = .bool n := by
    intro a v h1 h2
    cases a <;> simp [AV.shp, AV.shp1] at h1
    simp [AV.pv, AV.pv1] at h2
    exact ⟨_, rfl, h2.symm⟩
  refine ⟨⟨_, hu, .inl fun a b v u h1 h2 h3 h4 => ?_⟩, fun e a v w h1 h2 => ?_, fun a b v u w h1 h2 h3 h4 => ?_⟩
  · obtain ⟨n, rfl, rfl⟩ := inv _ _ h1 h3
    obtain ⟨m, rfl, rfl⟩ := inv _ _ h2 h4
    simp [Instr.sameNow, AV.peq, peq1]
  · obtain ⟨n, rfl, rfl⟩ := inv _ _ h1 h2
    have e : (10000 : Nat) = 9999 + 1 := rfl
    rw [e]
    generalize 9999 = d
    simp [Instr.checkKey, run_underlying hu]
  · obtain ⟨n, rfl, rfl⟩ := inv _ _ h1 h3
    obtain ⟨m, rfl, rfl⟩ := inv _ _ h2 h4
    exact run_equalIn_bool w 9999 t n m hu
theorem keyOK_str {C : Cx} {t : TypeId} {i : TyI} (ht : C.ty t = some i) (hd : i.desc = .string) : KeyOK C t (.str ByteArray.empty) := by
  have hu := (C.ok t i ht).1
  rw [hd] at hu
  have inv : ∀ a v, AV.shp a = .str ByteArray.empty → a.pv = some v → ∃ n, a = .str n ∧ v = .string n := by
    intro a v h1 h2
    cases a <;> simp [AV.shp, AV.shp1] at h1
    simp [AV.pv, AV.pv1] at h2
    exact ⟨_, rfl, h2.symm⟩
  refine ⟨⟨_, hu, .inl fun a b v u h1 h2 h3 h4 => ?_⟩, fun e a v w h1 h2 => ?_, fun a b v u w h1 h2 h3 h4 => ?_⟩
  · obtain ⟨n, rfl, rfl⟩ := inv _ _ h1 h3
    obtain ⟨m, rfl, rfl⟩ := inv _ _ h2 h4
    simp [Instr.sameNow, AV.peq, peq1]
  · obtain ⟨n, rfl, rfl⟩ := inv _ _ h1 h2
    have e : (10000 : Nat) = 9999 + 1 := rfl
    rw [e]
    generalize 9999 = d
    simp [Instr.checkKey, run_underlying hu]
  · obtain ⟨n, rfl, rfl⟩ := inv _ _ h1 h3
    obtain ⟨m, rfl, rfl⟩ := inv _ _ h2 h4
    have := run_equalIn_string (P := C.P) w 9999 t n m hu
    rw [← beq_toListBytes] at this
    exact this
end Go.Lg
