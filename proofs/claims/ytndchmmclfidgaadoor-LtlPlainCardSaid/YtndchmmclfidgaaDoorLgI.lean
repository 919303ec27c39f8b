/- Lg, part I: the operations as one function from abstract values, and that it is sound. -/
import Derived.Test.YtndchmmclfidgaaDoorLgH3
import Derived.Test.YtndchmmclfidgaaDoorLgG2
set_option linter.unusedVariables false
set_option linter.unusedSimpArgs false
namespace Go.Lg
open Go.RowKit

/-! ### What is asked of types -/
/-- The element type of a slice type. -/
def slE (C : Cx) (t : TypeId) : Option TyI := match C.ty t with | some i => (match i.desc with | .slice e => C.ty e | _ => none) | none => none
def arE (C : Cx) (t : TypeId) : Option (Nat × TyI) := match C.ty t with | some i => (match i.desc with | .array n e => (C.ty e).map fun ei => (n, ei) | _ => none) | none => none
def fldE (C : Cx) (t : TypeId) (f : Nat) : Option (Nat × TyI) := match C.ty t with | some i => (match i.desc with | .struct fs => (match fs.toList[f]? with | some fl => (C.ty fl.type).map fun fi => (fl.offset, fi) | none => none) | _ => none) | none => none
def mpE (C : Cx) (t : TypeId) : Option (TypeId × TyI) := match C.ty t with | some i => (match i.desc with | .map k e => (C.ty e).map fun ei => (k, ei) | _ => none) | none => none
theorem mpE_some {C : Cx} {t kt : TypeId} {ei : TyI} (h : mpE C t = some (kt, ei)) : ∃ ti e, C.ty t = some ti ∧ ti.desc = .map kt e ∧ C.ty e = some ei := by
  unfold mpE at h
  split at h
  · rename_i i hi
    split at h
    · rename_i k e hd
      obtain ⟨ei', h1, h2⟩ := Option.map_eq_some_iff.1 h
      cases h2
      exact ⟨i, e, hi, hd, h1⟩
    · cases h
  · cases h
def isStrT (C : Cx) (t : TypeId) : Bool := match C.ty t with | some i => (match i.desc with | .string => true | _ => false) | none => false
def isBoolT (C : Cx) (t : TypeId) : Bool := match C.ty t with | some i => (match i.desc with | .bool => true | _ => false) | none => false
def intT (C : Cx) (t : TypeId) : Option IntKind := match C.ty t with | some i => (match i.desc with | .int k => some k | _ => none) | none => none
/-- The zero cells of a struct type and the places of its fields. -/
def bldE (C : Cx) (t : TypeId) : Option (List AV × (Nat → Option (Nat × Nat))) :=
  match C.ty t with
  | some i => match i.desc with
    | .struct fs => if fs.toList.all (fun f => (C.ty f.type).isSome) = true ∧ (ofV i.zero).def = true then some ((ofV i.zero).cells, placesOf C fs.toList) else none
    | .array n e => match C.ty e with | some ei => if (ofV i.zero).def = true then some ((ofV i.zero).cells, fun j => some (j * ei.size, ei.size)) else none | none => none
    | _ => none
  | none => none

theorem slE_some {C : Cx} {t : TypeId} {ei : TyI} (h : slE C t = some ei) : ∃ ti e, C.ty t = some ti ∧ ti.desc = .slice e ∧ C.ty e = some ei := by
  unfold slE at h
  split at h
  · rename_i i hi
    split at h
    · rename_i e he; exact ⟨i, e, hi, he, h⟩
    · cases h
  · cases h
theorem arE_some {C : Cx} {t : TypeId} {n : Nat} {ei : TyI} (h : arE C t = some (n, ei)) : ∃ ti e, C.ty t = some ti ∧ ti.desc = .array n e ∧ C.ty e = some ei := by
  unfold arE at h
  split at h
  · rename_i i hi
    split at h
    · rename_i n' e he
      obtain ⟨ei', h1, h2⟩ := Option.map_eq_some_iff.1 h
      cases h2
      exact ⟨i, e, hi, he, h1⟩
    · cases h
  · cases h
theorem fldE_some {C : Cx} {t : TypeId} {f off : Nat} {fi : TyI} (h : fldE C t f = some (off, fi)) : ∃ ti fs fl, C.ty t = some ti ∧ ti.desc = .struct fs ∧ fs[f]? = some fl ∧ C.ty fl.type = some fi ∧ fl.offset = off := by
  unfold fldE at h
  split at h
  · rename_i i hi
    split at h
    · rename_i fs hd
      split at h
      · rename_i fl hf
        obtain ⟨fi', h1, h2⟩ := Option.map_eq_some_iff.1 h
        cases h2
        rw [Array.getElem?_toList] at hf
        exact ⟨i, fs, fl, hi, hd, hf, h1, rfl⟩
      · cases h
    · cases h
  · cases h
theorem isStrT_some {C : Cx} {t : TypeId} (h : isStrT C t = true) : ∃ ti, C.ty t = some ti ∧ ti.desc = .string := by
  unfold isStrT at h
  split at h
  · rename_i i hi
    split at h
    · rename_i hd; exact ⟨i, hi, hd⟩
    · cases h
  · cases h
theorem isBoolT_some {C : Cx} {t : TypeId} (h : isBoolT C t = true) : ∃ ti, C.ty t = some ti ∧ ti.desc = .bool := by
  unfold isBoolT at h
  split at h
  · rename_i i hi
    split at h
    · rename_i hd; exact ⟨i, hi, hd⟩
    · cases h
  · cases h
theorem intT_some {C : Cx} {t : TypeId} {k : IntKind} (h : intT C t = some k) : ∃ ti, C.ty t = some ti ∧ ti.desc = .int k := by
  unfold intT at h
  split at h
  · rename_i i hi
    split at h
    · rename_i k' hd; cases h; exact ⟨i, hi, hd⟩
    · cases h
  · cases h

/-- A list, for reading. -/
def AV.fz : AV → AV
  | .own _ xs => .list false xs
  | a => a
theorem Rep.fz' {G : Gh} {a : AV} {v : Value} (h : Rep G a v) : Rep G a.fz v := by
  cases a with
  | own id xs => cases h with | own _ _ _ h _ => exact h
  | _ => exact h
theorem AV.fz_isInt (a : AV) : a.fz.isInt = a.isInt := by cases a <;> rfl
theorem AV.fz_theI (a : AV) : a.fz.theI = a.theI := by cases a <;> rfl
theorem okI_fz (ρ : Operand → AV) (o : Option Operand) : okI (fun y => (ρ y).fz) o = okI ρ o := by
  cases o with
  | none => rfl
  | some x => simp only [okI, AV.fz_isInt, AV.fz_theI]
theorem valI_fz (ρ : Operand → AV) (d : Nat) (o : Option Operand) : valI (fun y => (ρ y).fz) d o = valI ρ d o := by
  cases o with
  | none => rfl
  | some x => simp only [valI, AV.fz_theI]
theorem snd_fz {C : Cx} {o : Oper} {ρ : Operand → AV} {σ : Sto} {r : AR} (h : Snd C o (fun y => (ρ y).fz) σ r) : Snd C o ρ σ r := fun hc w0 G a w hi hr =>
  h hc w0 G a w hi fun y hy => (hr y hy).fz'

def bad (σ : Sto) : AR := ⟨False, .undef, σ⟩
theorem snd_bad {C : Cx} {o : Oper} {ρ : Operand → AV} {σ : Sto} : Snd C o ρ σ (bad σ) := fun h => h.elim
theorem snd_imp {C : Cx} {o : Oper} {ρ : Operand → AV} {σ σ' : Sto} {v : AV} {c c' : Prop} (h : c' → Snd C o ρ σ ⟨c, v, σ'⟩) (hc : c' → c) : Snd C o ρ σ ⟨c', v, σ'⟩ := fun h' => h h' (hc h')

/-- The elements that a value stands for, as a source of append; the size of an element: es. -/
def srcA (C : Cx) (σ : Sto) (t2 : TypeId) (es : Nat) : AV → Prop × List AV
  | .list _ ys => ((slE C t2).isSome = true ∧ (∀ y ∈ ys, y.cells.length = es) ∧ (∀ y ∈ ys, y.cells.all AV.one = true), ys)
  | .own _ ys => ((slE C t2).isSome = true ∧ (∀ y ∈ ys, y.cells.length = es) ∧ (∀ y ∈ ys, y.cells.all AV.one = true), ys)
  | .row id off len =>
      match σ.get id with
      | some (.row es' xs _) => ((slE C t2).isSome = true ∧ es' = es ∧ off + len ≤ xs.length ∧ (∀ y ∈ xs, y.cells.all AV.one = true), (xs.drop off).take len)
      | _ => (False, [])
  | .str s => (isStrT C t2 = true ∧ es = 1, bytesAV s)
  | _ => (False, [])

theorem srcA_ok {C : Cx} {σ : Sto} {t2 : TypeId} {es : Nat} {x : AV} (h : (srcA C σ t2 es x).1) {w0 w : World} {G : Gh} (hi : Inv C.gl w0 G σ w) {X : Value} (hr : Rep G x X) : Src C G w t2 es X (srcA C σ t2 es x).2 := by
  unfold srcA at h ⊢
  split at h
  · rename_i f ys
    obtain ⟨h1, h2, h3⟩ := h
    obtain ⟨ei, hei⟩ := Option.isSome_iff_exists.1 h1
    obtain ⟨ti, e, ht, hd, _⟩ := slE_some hei
    exact src_list hi ht hd hr h2 h3
  · rename_i id ys
    obtain ⟨h1, h2, h3⟩ := h
    obtain ⟨ei, hei⟩ := Option.isSome_iff_exists.1 h1
    obtain ⟨ti, e, ht, hd, _⟩ := slE_some hei
    exact src_list hi ht hd hr.fz h2 h3
  · rename_i id off len
    split at h
    · rename_i es' xs fz hg
      simp only [hg]
      obtain ⟨h1, rfl, h2, h3⟩ := h
      obtain ⟨ei, hei⟩ := Option.isSome_iff_exists.1 h1
      obtain ⟨ti, e, ht, hd, _⟩ := slE_some hei
      exact src_row hi ht hd hg hr h2 h3
    · exact h.elim
  · rename_i s
    obtain ⟨h1, rfl⟩ := h
    obtain ⟨ti, ht, hd⟩ := isStrT_some h1
    exact src_str ht hd hr
  · exact h.elim

def appA (C : Cx) (σ : Sto) (t2 : TypeId) (ei : TyI) (s x : AV) : AR :=
  match s with
  | .list true xs => ⟨(srcA C σ t2 ei.size x).1 ∧ (∀ x ∈ xs, x.cells.length = ei.size) ∧ (∀ x ∈ xs, x.cells.all AV.one = true) ∧ ei.zero.cells.size = ei.size ∧
      (xs.length + (srcA C σ t2 ei.size x).2.length) * ei.bytes ≤ 140737488355328 ∧ xs.length + (srcA C σ t2 ei.size x).2.length ≤ 9223372036854775807,
      .own σ.next (xs ++ (srcA C σ t2 ei.size x).2), σ.add (.tok ei.size (xs.length + (srcA C σ t2 ei.size x).2.length))⟩
  | .row id off len =>
    match σ.get id with
    | some (.row es xs false) => ⟨(srcA C σ t2 ei.size x).1 ∧ off + len = xs.length ∧ es = ei.size ∧ (∀ x ∈ xs, x.cells.all AV.one = true) ∧ ei.zero.cells.size = ei.size ∧
        (len + (srcA C σ t2 ei.size x).2.length) * ei.bytes ≤ 140737488355328 ∧ len + (srcA C σ t2 ei.size x).2.length ≤ 9223372036854775807,
        .row σ.next 0 (len + (srcA C σ t2 ei.size x).2.length), (σ.del id).add (.row es (xs.drop off ++ (srcA C σ t2 ei.size x).2) false)⟩
    | _ => bad σ
  | .own id xs =>
    match σ.get id with
    | some (.tok es n) => ⟨(srcA C σ t2 ei.size x).1 ∧ n = xs.length ∧ es = ei.size ∧ (∀ x ∈ xs, x.cells.length = ei.size) ∧ (∀ x ∈ xs, x.cells.all AV.one = true) ∧ ei.zero.cells.size = ei.size ∧
        (xs.length + (srcA C σ t2 ei.size x).2.length) * ei.bytes ≤ 140737488355328 ∧ xs.length + (srcA C σ t2 ei.size x).2.length ≤ 9223372036854775807,
        .own id (xs ++ (srcA C σ t2 ei.size x).2), σ.set id (.tok es (n + (srcA C σ t2 ei.size x).2.length))⟩
    | _ => bad σ
  | _ => bad σ

def lenA (C : Cx) (σ : Sto) (t : TypeId) (x : AV) : AR :=
  match x with
  | .str s => ⟨isStrT C t = true, .int .i64 s.size, σ⟩
  | .list _ xs => ⟨(slE C t).isSome = true, .int .i64 xs.length, σ⟩
  | .own _ xs => ⟨(slE C t).isSome = true, .int .i64 xs.length, σ⟩
  | .row _ _ len => ⟨(slE C t).isSome = true, .int .i64 len, σ⟩
  | .map id => match σ.get id with
    | some (.mp es) => ⟨(mpE C t).isSome = true, .int .i64 es.length, σ⟩
    | _ => bad σ
  | _ => match arE C t with | some (n, _) => ⟨True, .int .i64 n, σ⟩ | none => bad σ

def mxA (σ : Sto) (x y : AV) : AR := match x, y with | .int k n, .int _ m => ⟨True, .int k (if m > n then m else n), σ⟩ | _, _ => bad σ
def mnA (σ : Sto) (x y : AV) : AR := match x, y with | .int k n, .int _ m => ⟨True, .int k (if m < n then m else n), σ⟩ | _, _ => bad σ

def bltA (C : Cx) (ρ : Operand → AV) (σ : Sto) (b : Builtin) (args : List Operand) (ts : List TypeId) : AR :=
  match b, args, ts with
  | .len, [x], [t] => lenA C σ t (ρ x)
  | .max, [x, y], _ => mxA σ (ρ x) (ρ y)
  | .min, [x, y], _ => mnA σ (ρ x) (ρ y)
  | .append, [s, x], [t, t2] => match slE C t with | some ei => appA C σ t2 ei (ρ s) (ρ x) | none => bad σ
  | _, _, _ => bad σ

def loadA (i : TyI) (σ : Sto) (a : AV) : AR :=
  match a with
  | .ptr id k => match σ.get id with | some (.box cs) => ⟨rdOK i cs k, rdC i cs k, σ⟩ | _ => bad σ
  | .eptr cs k => ⟨rdOK i cs k, rdC i cs k, σ⟩
  | .rptr id n k => match σ.get id with | some (.row _ xs _) => ⟨n < xs.length ∧ rdOK i (xs.getD n .undef).cells k, rdC i (xs.getD n .undef).cells k, σ⟩ | _ => bad σ
  | _ => bad σ

def storeA (i : TyI) (σ : Sto) (a y : AV) : AR :=
  match a with
  | .ptr id k => match σ.get id with
    | some (.box cs) => ⟨y.def = true ∧ y.cells.length = i.size ∧ k + i.size ≤ cs.length ∧ y.cells.all AV.one = true, .undef, σ.set id (.box (wr cs k y.cells))⟩
    | _ => bad σ
  | .rptr id n k => match σ.get id with
    | some (.row es xs false) => ⟨n < xs.length ∧ y.def = true ∧ y.cells.length = i.size ∧ k + i.size ≤ es ∧ y.cells.all AV.one = true, .undef,
        σ.set id (.row es (xs.set n (if es = 1 ∧ i.size = 1 then y.cells.getD 0 .undef else .agg (wr (xs.getD n .undef).cells k y.cells))) false)⟩
    | _ => bad σ
  | _ => bad σ

def idxA (C : Cx) (σ : Sto) (t : TypeId) (x ix : AV) : AR :=
  match x with
  | .list _ xs => match slE C t with
    | some ei => ⟨ix.isInt = true ∧ 0 ≤ ix.theI ∧ ix.theI < xs.length ∧ (xs.getD ix.theI.toNat .undef).cells.length = ei.size, .eptr (xs.getD ix.theI.toNat .undef).cells 0, σ⟩
    | none => bad σ
  | .own _ xs => match slE C t with
    | some ei => ⟨ix.isInt = true ∧ 0 ≤ ix.theI ∧ ix.theI < xs.length ∧ (xs.getD ix.theI.toNat .undef).cells.length = ei.size, .eptr (xs.getD ix.theI.toNat .undef).cells 0, σ⟩
    | none => bad σ
  | .row id off len => match slE C t, σ.get id with
    | some ei, some (.row es _ _) => ⟨ix.isInt = true ∧ 0 ≤ ix.theI ∧ ix.theI < len ∧ es = ei.size, .rptr id (off + ix.theI.toNat) 0, σ⟩
    | _, _ => bad σ
  | x => match arE C t with
    | some (n, ei) => ⟨x.isAddr = true ∧ ix.isInt = true ∧ 0 ≤ ix.theI ∧ ix.theI < n, x.shift (ix.theI.toNat * ei.size), σ⟩
    | none => bad σ

def ixvA (C : Cx) (σ : Sto) (t : TypeId) (x ix : AV) : AR :=
  match x with
  | .agg cs => match arE C t with
    | some (n, ei) => ⟨ix.isInt = true ∧ 0 ≤ ix.theI ∧ ix.theI < n ∧ rdOK ei cs (ix.theI.toNat * ei.size), rdC ei cs (ix.theI.toNat * ei.size), σ⟩
    | none => bad σ
  | .str s => ⟨isStrT C t = true ∧ ix.isInt = true ∧ 0 ≤ ix.theI ∧ ix.theI < s.size, .int .u8 (byteAt s ix.theI.toNat), σ⟩
  | _ => bad σ

def isIfT (C : Cx) (t : TypeId) : Bool := match C.ty t with | some i => (match i.desc with | .interface ms => ms.isEmpty | _ => false) | none => false
theorem isIfT_some {C : Cx} {t : TypeId} (h : isIfT C t = true) : ∃ ti ms, C.ty t = some ti ∧ ti.desc = .interface ms ∧ ms.isEmpty = true := by
  unfold isIfT at h
  split at h
  · rename_i i hi
    split at h
    · rename_i ms hd; exact ⟨i, ms, hi, hd, h⟩
    · cases h
  · cases h
def binA (C : Cx) (σ : Sto) (op : BinOp) (t : TypeId) (x y : AV) : AR :=
  match x, y with
  | .int k n, .int k2 m => ⟨(aInt op k n k2 m).1, (aInt op k n k2 m).2, σ⟩
  | .str n, .str m => ⟨(aStr op n m).1, (aStr op n m).2, σ⟩
  | .bool n, .bool m => ⟨isBoolT C t = true ∧ (op = .eql ∨ op = .neq), .bool (if op = .eql then n == m else !(n == m)), σ⟩
  | .nili, .nili => ⟨isIfT C t = true ∧ (op = .eql ∨ op = .neq), .bool (if op = .eql then true else false), σ⟩
  | .iface _ _, .nili => ⟨isIfT C t = true ∧ (op = .eql ∨ op = .neq), .bool (if op = .eql then false else true), σ⟩
  | .agg cs, .agg ds => ⟨(KeyOK C t (AV.agg cs).shp ∧ C.P.eqGuardType C.P.depth t = false ∧ (AV.agg ds).shp = (AV.agg cs).shp ∧ (AV.agg cs).pv.isSome = true ∧ (AV.agg ds).pv.isSome = true) ∧ (op = .eql ∨ op = .neq),
      .bool (if op = .eql then peqL cs ds else !peqL cs ds), σ⟩
  | _, _ => bad σ

def isU8T (C : Cx) (t : TypeId) : Bool := match slE C t with | some i => (match i.desc with | .int .u8 => true | _ => false) | none => false
theorem isU8T_some {C : Cx} {t : TypeId} (h : isU8T C t = true) : ∃ ti e ei, C.ty t = some ti ∧ ti.desc = .slice e ∧ C.ty e = some ei ∧ ei.desc = .int .u8 := by
  unfold isU8T at h
  split at h
  · rename_i i hi
    split at h
    · rename_i hd
      obtain ⟨ti, e, h1, h2, h3⟩ := slE_some hi
      exact ⟨ti, e, i, h1, h2, h3, hd⟩
    · cases h
  · cases h
def tasA (C : Cx) (σ : Sto) (t : TypeId) (ok : Bool) (x : AV) : AR :=
  match x with
  | .iface t2 v => match C.ty t with
    | some ti => ⟨ok = true ∧ t = t2 ∧ ∀ ms, ti.desc ≠ .interface ms, .tup [v, .bool true], σ⟩
    | none => bad σ
  | _ => bad σ

def notI (k : IntKind) (n : Int) : Int := k.wrap ((BitVec.ofInt k.bits (if k.signed then -1 else k.max) ^^^ BitVec.ofInt k.bits n).toNat : Int)
def unA (σ : Sto) (op : UnOp) (x : AV) : AR :=
  match op, x with
  | .not, .bool b => ⟨True, .bool (!b), σ⟩
  | .neg, .int k n => ⟨True, .int k (k.wrap (0 - n)), σ⟩
  | .xor, .int k n => ⟨True, .int k (notI k n), σ⟩
  | _, _ => bad σ

def cnvA (C : Cx) (σ : Sto) (src dst : TypeId) (x : AV) : AR :=
  match x with
  | .int k n => match intT C dst with | some q => ⟨(C.ty src).isSome = true, .int q (q.wrap n), σ⟩ | none => bad σ
  | .str s => ⟨(C.ty src).isSome = true ∧ isStrT C dst = true, .str s, σ⟩
  | .list _ xs => ⟨isU8T C src = true ∧ isStrT C dst = true ∧ xs.all AV.isU8 = true, .str (byA xs), σ⟩
  | .own _ xs => ⟨isU8T C src = true ∧ isStrT C dst = true ∧ xs.all AV.isU8 = true, .str (byA xs), σ⟩
  | _ => bad σ

def slcA (C : Cx) (ρ : Operand → AV) (σ : Sto) (t : TypeId) (x : AV) (lo hi : Option Operand) : AR :=
  match x with
  | .str s => ⟨isStrT C t = true ∧ okI ρ lo ∧ okI ρ hi ∧ valI ρ 0 lo ≤ valI ρ s.size hi ∧ valI ρ s.size hi ≤ s.size, .str (s.extract (valI ρ 0 lo) (valI ρ s.size hi)), σ⟩
  | .list full xs => match slE C t with
    | some ei => ⟨okI ρ lo ∧ okI ρ hi ∧ valI ρ 0 lo ≤ valI ρ xs.length hi ∧ valI ρ xs.length hi ≤ xs.length ∧ (∀ x ∈ xs, x.cells.length = ei.size), .list (full && hi.isNone) ((xs.take (valI ρ xs.length hi)).drop (valI ρ 0 lo)), σ⟩
    | none => bad σ
  | .own _ xs => match slE C t with
    | some ei => ⟨okI ρ lo ∧ okI ρ hi ∧ valI ρ 0 lo ≤ valI ρ xs.length hi ∧ valI ρ xs.length hi ≤ xs.length ∧ (∀ x ∈ xs, x.cells.length = ei.size), .list (false && hi.isNone) ((xs.take (valI ρ xs.length hi)).drop (valI ρ 0 lo)), σ⟩
    | none => bad σ
  | .row id off len => match slE C t, σ.get id with
    | some ei, some (.row es _ _) => ⟨okI ρ lo ∧ okI ρ hi ∧ valI ρ 0 lo ≤ valI ρ len hi ∧ valI ρ len hi ≤ len ∧ es = ei.size, .row id (off + valI ρ 0 lo) (valI ρ len hi - valI ρ 0 lo), σ⟩
    | _, _ => bad σ
  | _ => bad σ

def mkslA (C : Cx) (σ : Sto) (t : TypeId) (x y : AV) : AR :=
  match slE C t, x, y with
  | some ei, .int _ n, .int _ c => ⟨0 ≤ n ∧ n ≤ c ∧ c * ei.bytes ≤ 281474976710656 ∧ c ≤ 281474976710656 ∧ (ofV ei.zero).def = true ∧ (ofV ei.zero).cells.length = ei.size ∧ 0 < ei.size,
      .row σ.next 0 n.toNat, σ.add (.row ei.size (List.replicate n.toNat (ofV ei.zero)) false)⟩
  | _, _, _ => bad σ

def fldA (σ : Sto) (fe : Option (Nat × TyI)) (x : AV) : AR :=
  match fe, x with
  | some (off, fi), .agg cs => ⟨rdOK fi cs off, rdC fi cs off, σ⟩
  | _, _ => bad σ
def faA (σ : Sto) (fe : Option (Nat × TyI)) (x : AV) : AR :=
  match fe with
  | some (off, fi) => ⟨fi.size ≠ 0 ∧ x.isAddr = true, x.shift off, σ⟩
  | none => bad σ
def extA (σ : Sto) (x : AV) (k : Nat) : AR := match x with | .tup vs => ⟨k < vs.length, vs.getD k .undef, σ⟩ | _ => bad σ
def bldA (σ : Sto) (be : Option (List AV × (Nat → Option (Nat × Nat)))) (parts : List (Nat × AV)) : AR :=
  match be with
  | some (z, pl) => ⟨(fillA pl z parts).isSome = true, .agg ((fillA pl z parts).getD []), σ⟩
  | none => bad σ
def bslA (σ : Sto) (se : Option TyI) (n : Nat) (parts : List (Nat × AV)) : AR :=
  match se with
  | some ei => ⟨(ofV ei.zero).def = true ∧ (ofV ei.zero).cells.length = ei.size ∧ 0 < ei.size ∧ n * ei.size ≤ 16777216 ∧ (fillL ei.size (List.replicate n (ofV ei.zero)) parts).isSome = true,
      .list true ((fillL ei.size (List.replicate n (ofV ei.zero)) parts).getD []), σ⟩
  | none => bad σ
def allocA (σ : Sto) (te : Option TyI) : AR := match te with | some i => ⟨(ofV i.zero).def = true, .ptr σ.next 0, σ.add (.box (ofV i.zero).cells)⟩ | none => bad σ
def mkfA (ρ : Operand → AV) (σ : Sto) (f : Fn) (first cap : List Operand) : AR := match f, first with | .func f, [] => ⟨True, .fn f (cap.map ρ), σ⟩ | _, _ => bad σ
def ifaceA (C : Cx) (σ : Sto) (t : TypeId) (x : AV) : AR := match C.ty t with | some ti => ⟨∀ ms, ti.desc ≠ .interface ms, .iface t x, σ⟩ | none => bad σ
def lkpA (C : Cx) (σ : Sto) (t : TypeId) (x k : AV) (ok : Bool) : AR :=
  match mpE C t, x with
  | some (kt, ei), .map id => match σ.get id with
    | some (.mp es) => ⟨KeyOK C kt k.shp ∧ k.pv.isSome = true ∧ ∀ e ∈ es, e.1.shp = k.shp, lookA (ofV ei.zero) (mget k es) ok, σ⟩
    | _ => bad σ
  | some (kt, ei), .nilm => ⟨KeyOK C kt k.shp ∧ k.pv.isSome = true, lookA (ofV ei.zero) none ok, σ⟩
  | _, _ => bad σ
def mupA (C : Cx) (σ : Sto) (t : TypeId) (x k y : AV) : AR :=
  match mpE C t, x with
  | some (kt, _), .map id => match σ.get id with
    | some (.mp es) => ⟨KeyOK C kt k.shp ∧ k.pv.isSome = true ∧ ∀ e ∈ es, e.1.shp = k.shp, .undef, σ.set id (.mp (mput k y es))⟩
    | _ => bad σ
  | _, _ => bad σ
def mkmA (σ : Sto) (r : Option Operand) : AR := match r with | none => ⟨True, .map σ.next, σ.add (.mp [])⟩ | some _ => bad σ
def AV.isFn : AV → Bool
  | .fn _ _ => true
  | _ => false

def aop (C : Cx) (ρ : Operand → AV) (σ : Sto) : Op → AR
  | .move x => ⟨True, ρ x, σ⟩
  | .assign x => ⟨True, ρ x, σ⟩
  | .pick c x y => ⟨(ρ c).isBool = true, if (ρ c).theB = true then ρ x else ρ y, σ⟩
  | .box t x => ⟨(ρ x).def = true, .ptr σ.next 0, σ.add (.box (ρ x).cells)⟩
  | .alloc t => allocA σ (C.ty t)
  | .load t x => match C.ty t with | some i => loadA i σ (ρ x) | none => bad σ
  | .store t x y => match C.ty t with | some i => storeA i σ (ρ x) (ρ y) | none => bad σ
  | .fieldAddr t x f => faA σ (fldE C t f) (ρ x)
  | .field t x f => fldA σ (fldE C t f) (ρ x)
  | .indexAddr t x ix => idxA C σ t (ρ x) (ρ ix)
  | .index t x ix => ixvA C σ t (ρ x) (ρ ix)
  | .extract x k => extA σ (ρ x) k
  | .binOp op t x y t' => binA C σ op t (ρ x) (ρ y)
  | .typeAssert x t' t ok => tasA C σ t ok (ρ x)
  | .unOp op t x => unA σ op (ρ x)
  | .nilCheck x => ⟨(ρ x).isAddr = true ∨ (ρ x).isFn = true, ρ x, σ⟩
  | .makeFunc f first cap => mkfA ρ σ f first.toList cap.toList
  | .convert src dst x => cnvA C σ src dst (ρ x)
  | .makeInterface t x => ifaceA C σ t (ρ x)
  | .build t parts => bldA σ (bldE C t) (parts.toList.map fun p => (p.1, ρ p.2))
  | .buildSlice t n parts => bslA σ (slE C t) n (parts.toList.map fun p => (p.1, ρ p.2))
  | .slice t x lo hi mx => match mx with | none => slcA C ρ σ t (ρ x) lo hi | some _ => bad σ
  | .makeSlice t x y => mkslA C σ t (ρ x) (ρ y)
  | .makeMap t r => mkmA σ r
  | .lookup t x k ok => lkpA C σ t (ρ x) (ρ k) ok
  | .mapUpdate t x k y => mupA C σ t (ρ x) (ρ k) (ρ y)
  | .insert t x k y => mupA C σ t (ρ x) (ρ k) (ρ y)
  | .call cl => match cl.callee with | .builtin b => bltA C ρ σ b cl.args.toList cl.argTypes.toList | _ => bad σ
  | _ => bad σ

theorem arr1 {α : Type} {xs : Array α} {x : α} (h : xs.toList = [x]) : xs = #[x] := by cases xs; simp_all
theorem arr2 {α : Type} {xs : Array α} {x y : α} (h : xs.toList = [x, y]) : xs = #[x, y] := by cases xs; simp_all
theorem arr0 {α : Type} {xs : Array α} (h : xs.toList = []) : xs = #[] := by cases xs; simp_all

section
variable {C : Cx} {ρ : Operand → AV} {σ : Sto} {o : Oper}

theorem bltA_sound (b : Builtin) (as : Array Operand) (ts : Array TypeId) (ho : o.op = .call { callee := .builtin b, args := as, argTypes := ts }) : Snd C o ρ σ (bltA C ρ σ b as.toList ts.toList) := by
  unfold bltA
  split
  · rename_i x t h1 h2
    rw [arr1 h1, arr1 h2] at ho
    unfold lenA
    split
    · rename_i s hx
      refine fun hc => ?_
      obtain ⟨ti, ht, hd⟩ := isStrT_some hc
      exact snd_len_str ht hd ho hx trivial
    · rename_i f xs hx
      refine fun hc => ?_
      obtain ⟨ei, hei⟩ := Option.isSome_iff_exists.1 hc
      obtain ⟨ti, e, ht, hd, _⟩ := slE_some hei
      exact snd_len_list ht hd ho hx trivial
    · rename_i id xs hx
      refine fun hc => ?_
      obtain ⟨ei, hei⟩ := Option.isSome_iff_exists.1 hc
      obtain ⟨ti, e, ht, hd, _⟩ := slE_some hei
      exact snd_fz (snd_imp (fun _ => snd_len_list (σ := σ) (ρ := fun y => (ρ y).fz) (f := false) (xs := xs) ht hd ho (by rw [hx]; rfl)) fun _ => trivial) hc
    · rename_i id off len hx
      refine fun hc => ?_
      obtain ⟨ei, hei⟩ := Option.isSome_iff_exists.1 hc
      obtain ⟨ti, e, ht, hd, _⟩ := slE_some hei
      exact snd_len_row ht hd ho hx trivial
    · rename_i id hx
      split
      · rename_i es hs
        refine fun hc => ?_
        obtain ⟨⟨kt, ei⟩, hei⟩ := Option.isSome_iff_exists.1 hc
        obtain ⟨ti, e, ht, hd, _⟩ := mpE_some hei
        exact snd_len_map ht hd ho hx hs trivial
      · exact snd_bad
    · split
      · rename_i n ei h
        obtain ⟨ti, e, ht, hd, _⟩ := arE_some h
        exact snd_len_arr ht hd ho
      · exact snd_bad
  · rename_i x y h1
    rw [arr2 h1] at ho
    unfold mxA
    split
    · rename_i hx hy; exact snd_max ho hx hy
    · exact snd_bad
  · rename_i x y h1
    rw [arr2 h1] at ho
    unfold mnA
    split
    · rename_i hx hy; exact snd_min ho hx hy
    · exact snd_bad
  · rename_i s x t t2 h1 h2
    rw [arr2 h1, arr2 h2] at ho
    split
    · rename_i ei hei
      obtain ⟨ti, e, ht, hd, he⟩ := slE_some hei
      unfold appA
      split
      · rename_i xs hs
        exact snd_imp (fun h => snd_append_full' ht hd he ho hs fun w0 G a w hi hr => srcA_ok h.1 hi hr) fun h => h.2
      · rename_i id off len hs
        split
        · rename_i es xs hg
          exact snd_imp (fun h => snd_append_row ht hd he ho hs hg fun w0 G a w hi hr => srcA_ok h.1 hi hr) fun h => h.2
        · exact snd_bad
      · rename_i id xs hs
        split
        · rename_i es n hg
          exact snd_imp (fun h => snd_append_own ht hd he ho hs hg fun w0 G a w hi hr => srcA_ok h.1 hi hr) fun h => h.2
        · exact snd_bad
      · exact snd_bad
    · exact snd_bad
  · exact snd_bad

theorem getD_some {xs : List AV} {n : Nat} (h : n < xs.length) : xs[n]? = some (xs.getD n .undef) := by rw [List.getD_eq_getElem?_getD, List.getElem?_eq_getElem h]; rfl

theorem aop_sound : Snd C o ρ σ (aop C ρ σ o.op) := by
  unfold aop
  split
  · rename_i x ho; exact snd_move (.inl ho)
  · rename_i x ho; exact snd_move (.inr ho)
  · rename_i c x y ho; exact snd_pick ho
  · rename_i t x ho; exact snd_box ho
  · rename_i t ho
    unfold allocA
    split
    · rename_i i ht; exact snd_alloc ht ho
    · exact snd_bad
  · rename_i t x ho
    split
    · rename_i i ht
      unfold loadA
      split
      · rename_i id k hx
        split
        · rename_i cs hs; exact snd_load_box ht ho hx hs
        · exact snd_bad
      · rename_i cs k hx; exact snd_load_imm ht ho hx
      · rename_i id n k hx
        split
        · rename_i es xs fz hs; exact fun hc => snd_load_row ht ho hx hs (getD_some hc.1) hc.2
        · exact snd_bad
      · exact snd_bad
    · exact snd_bad
  · rename_i t x y ho
    split
    · rename_i i ht
      unfold storeA
      split
      · rename_i id k hx
        split
        · rename_i cs hs; exact snd_store_box ht ho hx hs
        · exact snd_bad
      · rename_i id n k hx
        split
        · rename_i es xs hs; exact fun hc => snd_store_row ht ho hx hs (getD_some hc.1) hc.2
        · exact snd_bad
      · exact snd_bad
    · exact snd_bad
  · rename_i t x f ho
    unfold faA
    split
    · rename_i off fi h
      obtain ⟨ti, fs, fl, ht, hd, hf, hfi, rfl⟩ := fldE_some h
      exact snd_fieldAddr ht hd hf hfi ho
    · exact snd_bad
  · rename_i t x f ho
    unfold fldA
    split
    · rename_i off fi cs h hx
      obtain ⟨ti, fs, fl, ht, hd, hf, hfi, rfl⟩ := fldE_some h
      exact snd_field ht hd hf hfi ho hx
    · exact snd_bad
  · rename_i t x ix ho
    unfold idxA
    split
    · rename_i f xs hx
      split
      · rename_i ei h
        obtain ⟨ti, e, ht, hd, he⟩ := slE_some h
        exact snd_indexAddr_list ht hd he ho hx
      · exact snd_bad
    · rename_i id xs hx
      split
      · rename_i ei h
        obtain ⟨ti, e, ht, hd, he⟩ := slE_some h
        have := snd_fz (snd_indexAddr_list (σ := σ) (ρ := fun y => (ρ y).fz) (full := false) (xs := xs) ht hd he ho (by rw [hx]; rfl))
        simp only [AV.fz_isInt, AV.fz_theI] at this
        exact this
      · exact snd_bad
    · rename_i id off len hx
      split
      · rename_i ei es xs fz h hs
        obtain ⟨ti, e, ht, hd, he⟩ := slE_some h
        exact snd_indexAddr_row ht hd he ho hx hs
      · exact snd_bad
    · split
      · rename_i n ei h
        obtain ⟨ti, e, ht, hd, he⟩ := arE_some h
        exact snd_indexAddr_arr ht hd he ho
      · exact snd_bad
  · rename_i t x ix ho
    unfold ixvA
    split
    · rename_i cs hx
      split
      · rename_i n ei h
        obtain ⟨ti, e, ht, hd, he⟩ := arE_some h
        exact snd_index_arr ht hd he ho hx
      · exact snd_bad
    · rename_i s hx
      refine fun hc => ?_
      obtain ⟨ti, ht, hd⟩ := isStrT_some hc.1
      exact snd_index_str ht hd ho hx hc.2
    · exact snd_bad
  · rename_i x k ho
    unfold extA
    split
    · rename_i vs hx; exact fun hc => snd_extract ho hx (getD_some hc) trivial
    · exact snd_bad
  · rename_i op t x y t' ho
    unfold binA
    split
    · rename_i k n k2 m hx hy; exact snd_bin_int ho hx hy
    · rename_i n m hx hy; exact snd_bin_str ho hx hy
    · rename_i n m hx hy
      refine fun hc => ?_
      obtain ⟨ti, ht, hd⟩ := isBoolT_some hc.1
      exact snd_bin_bool ht hd ho hx hy hc.2
    · rename_i hx hy
      refine fun hc => ?_
      obtain ⟨ti, ms, ht, hd, hms⟩ := isIfT_some hc.1
      exact snd_bin_nili ht hd hms ho hx hy hc.2
    · rename_i t2 v hx hy
      refine fun hc => ?_
      obtain ⟨ti, ms, ht, hd, hms⟩ := isIfT_some hc.1
      exact snd_bin_iface ht hd ho hx hy hc.2
    · rename_i cs ds hx hy; exact snd_bin_agg ho hx hy
    · exact snd_bad
  · rename_i x t' t ok ho
    unfold tasA
    split
    · rename_i t2 v hx
      split
      · rename_i ti ht
        intro hc
        obtain ⟨h1, h2, h3⟩ := hc
        subst h2
        rw [h1] at ho
        exact snd_typeAssert ht ho hx h3
      · exact snd_bad
    · exact snd_bad
  · rename_i op t x ho
    unfold unA
    split
    · rename_i b hx
      have h := snd_not (C := C) (σ := σ) (ρ := ρ) ho
      rw [hx] at h
      exact snd_imp (fun _ => h) fun _ => rfl
    · rename_i k n hx; exact snd_neg ho hx
    · rename_i k n hx; exact snd_inv ho hx
    · exact snd_bad
  · rename_i x ho
    refine snd_imp (fun _ => snd_nilCheck ho) fun h => h.imp id fun h => ?_
    cases hx : ρ x <;> simp_all [AV.isFn]
  · rename_i f first cap ho
    unfold mkfA
    split
    · rename_i f' hf
      rw [arr0 hf] at ho
      exact snd_makeFunc ho
    · exact snd_bad
  · rename_i src dst x ho
    unfold cnvA
    split
    · rename_i k n hx
      split
      · rename_i q h
        obtain ⟨di, hd, hq⟩ := intT_some h
        refine fun hc => ?_
        obtain ⟨si, hs⟩ := Option.isSome_iff_exists.1 hc
        exact snd_convert_int hs hd hq ho hx trivial
      · exact snd_bad
    · rename_i s hx
      refine fun hc => ?_
      obtain ⟨si, hs⟩ := Option.isSome_iff_exists.1 hc.1
      obtain ⟨di, hd, hq⟩ := isStrT_some hc.2
      exact snd_convert_str hs hd hq ho hx trivial
    · rename_i f xs hx
      refine fun hc => ?_
      obtain ⟨si, e, ei, h1, h2, h3, h4⟩ := isU8T_some hc.1
      obtain ⟨di, hd, hq⟩ := isStrT_some hc.2.1
      exact snd_bytes h1 h2 h3 h4 hd hq ho hx hc.2.2
    · rename_i id xs hx
      refine snd_fz fun hc => ?_
      obtain ⟨si, e, ei, h1, h2, h3, h4⟩ := isU8T_some hc.1
      obtain ⟨di, hd, hq⟩ := isStrT_some hc.2.1
      exact snd_bytes h1 h2 h3 h4 hd hq ho (f := false) (by show (ρ x).fz = _; rw [hx]; rfl) hc.2.2
    · exact snd_bad
  · rename_i t x ho
    unfold ifaceA
    split
    · rename_i ti ht; exact snd_makeInterface ht ho
    · exact snd_bad
  · rename_i t parts ho
    unfold bldA
    split
    · rename_i z pl h
      unfold bldE at h
      split at h
      · rename_i ti ht
        split at h
        · rename_i fs hd
          split at h
          · rename_i hc
            cases h
            exact snd_imp (fun _ => snd_build_struct ht hd hc.1 ho) fun h => ⟨hc.2, h⟩
          · cases h
        · rename_i n e hd
          split at h
          · rename_i ei he
            split at h
            · rename_i hc
              cases h
              exact snd_imp (fun _ => snd_build_arr ht hd he ho) fun h => ⟨hc, h⟩
            · cases h
          · cases h
        · cases h
      · cases h
    · exact snd_bad
  · rename_i t n parts ho
    unfold bslA
    split
    · rename_i ei h
      obtain ⟨ti, e, ht, hd, he⟩ := slE_some h
      exact snd_buildSlice ht hd he ho
    · exact snd_bad
  · rename_i t x lo hi mx ho
    split
    · unfold slcA
      split
      · rename_i s hx
        refine fun hc => ?_
        obtain ⟨ti, ht, hd⟩ := isStrT_some hc.1
        exact snd_slice_str ht hd ho hx hc.2
      · rename_i full xs hx
        split
        · rename_i ei h
          obtain ⟨ti, e, ht, hd, he⟩ := slE_some h
          exact snd_slice_list ht hd he ho hx
        · exact snd_bad
      · rename_i id xs hx
        split
        · rename_i ei h
          obtain ⟨ti, e, ht, hd, he⟩ := slE_some h
          have := snd_fz (snd_slice_list (σ := σ) (ρ := fun y => (ρ y).fz) (full := false) (xs := xs) ht hd he ho (by rw [hx]; rfl))
          simp only [okI_fz, valI_fz] at this
          exact this
        · exact snd_bad
      · rename_i id off len hx
        split
        · rename_i ei es xs fz h hs
          obtain ⟨ti, e, ht, hd, he⟩ := slE_some h
          exact snd_slice_row ht hd he ho hx hs
        · exact snd_bad
      · exact snd_bad
    · exact snd_bad
  · rename_i t x y ho
    unfold mkslA
    split
    · rename_i ei k n q c h hx hy
      obtain ⟨ti, e, ht, hd, he⟩ := slE_some h
      exact snd_makeSlice ht hd he ho hx hy
    · exact snd_bad
  · rename_i t r ho
    unfold mkmA
    split
    · exact snd_makeMap rfl ho
    · exact snd_bad
  · rename_i t x k ok ho
    unfold lkpA
    split
    · rename_i kt ei id h hx
      obtain ⟨ti, e, ht, hd, he⟩ := mpE_some h
      split
      · rename_i es hs; exact snd_lookup ht hd he ho hx hs
      · exact snd_bad
    · rename_i kt ei h hx
      obtain ⟨ti, e, ht, hd, he⟩ := mpE_some h
      exact snd_lookup_nil ht hd he ho hx
    · exact snd_bad
  · rename_i t x k y ho
    unfold mupA
    split
    · rename_i kt ei id h hx
      obtain ⟨ti, e, ht, hd, he⟩ := mpE_some h
      split
      · rename_i es hs; exact snd_mapUpdate ht hd (.inl ho) hx hs
      · exact snd_bad
    · exact snd_bad
  · rename_i t x k y ho
    unfold mupA
    split
    · rename_i kt ei id h hx
      obtain ⟨ti, e, ht, hd, he⟩ := mpE_some h
      split
      · rename_i es hs; exact snd_mapUpdate ht hd (.inr ho) hx hs
      · exact snd_bad
    · exact snd_bad
  · rename_i cl ho
    split
    · rename_i b hb
      refine bltA_sound b cl.args cl.argTypes ?_
      rw [ho, ← hb]
    · exact snd_bad
  · exact snd_bad

theorem aop_noDefer (h : (aop C ρ σ o.op).c) : ∀ c, o.op ≠ .defer c := by
  intro c hc
  rw [hc] at h
  exact h
end
end Go.Lg
