/- Lg, part I: the operations as one function from abstract values, and that it is sound. -/
import Derived.Test.YtndchmmclfidgaaDoorLgH4
import Derived.Test.YtndchmmclfidgaaDoorLgG2
import Derived.OrdersIn
set_option linter.unusedVariables false
set_option linter.unusedSimpArgs false
namespace Go.Lg
open Go.RowKit
def slE (C : Cx) (t : TypeId) : Option TyI := match C.ty t with | some i => (match i.desc with | .slice e => C.ty e | _ => none) | none => none
def arE (C : Cx) (t : TypeId) : Option (Nat × TyI) := match C.ty t with | some i => (match i.desc with | .array n e => (C.ty e).map fun ei => (n, ei) | _ => none) | none => none
def fldE (C : Cx) (t : TypeId) (f : Nat) : Option (Nat × TyI) := match C.ty t with | some i => (match i.desc with | .struct fs => (match fs.toList[f]? with | some fl => (C.ty fl.type).map fun fi => (fl.offset, fi) | none => none) | _ => none) | none => none
def mpE (C : Cx) (t : TypeId) : Option (TypeId × TyI) := match C.ty t with | some i => (match i.desc with | .map k e => (C.ty e).map fun ei => (k, ei) | _ => none) | none => none
theorem mpE_some {C : Cx} {t kt : TypeId} {ei : TyI} (h : mpE C t = some (kt, ei)) : ∃ ti e, C.ty t = some ti ∧ ti.desc = .map kt e ∧ C.ty e = some ei := by
  unfold mpE at h
  split at h
  · rename_i i hi
    split at h
    · rename_i k e hd
      obtain ⟨ei', h1, h2⟩ := Option.map_eq_some_iff.1 h
      cases h2
      exact ⟨i, e, hi, hd, h1⟩
    · cases h
  · cases h
def isStrT (C : Cx) (t : TypeId) : Bool := match C.ty t with | some i => (match i.desc with | .string => true | _ => false) | none => false
def isBoolT (C : Cx) (t : TypeId) : Bool := match C.ty t with | some i => (match i.desc with | .bool => true | _ => false) | none => false
def intT (C : Cx) (t : TypeId) : Option IntKind := match C.ty t with | some i => (match i.desc with | .int k => some k | _ => none) | none => none
def bldE (C : Cx) (t : TypeId) : Option (List AV × (Nat → Option (Nat × Nat))) :=
  match C.ty t with
  | some i => match i.desc with
    | .struct fs => if fs.toList.all (fun f => (C.ty f.type).isSome) = true ∧ (ofV i.zero).def = true then some ((ofV i.zero).cells, placesOf C fs.toList) else none
    | .array n e => match C.ty e with | some ei => if (ofV i.zero).def = true then some ((ofV i.zero).cells, fun j => some (j * ei.size, ei.size)) else none | none => none
    | _ => none
  | none => none
theorem slE_some {C : Cx} {t : TypeId} {ei : TyI} (h : slE C t = some ei) : ∃ ti e, C.ty t = some ti ∧ ti.desc = .slice e ∧ C.ty e = some ei := by
  unfold slE at h
  split at h
  · rename_i i hi
    split at h
    · rename_i e he; exact ⟨i, e, hi, he, h⟩
    · cases h
  · cases h
theorem arE_some {C : Cx} {t : TypeId} {n : Nat} {ei : TyI} (h : arE C t = some (n, ei)) : ∃ ti e, C.ty t = some ti ∧ ti.desc = .array n e ∧ C.ty e = some ei := by
  unfold arE at h
  split at h
  · rename_i i hi
    split at h
    · rename_i n' e he
      obtain ⟨ei', h1, h2⟩ := Option.map_eq_some_iff.1 h
      cases h2
      exact ⟨i, e, hi, he, h1⟩
    · cases h
  · cases h
theorem fldE_some {C : Cx} {t : TypeId} {f off : Nat} {fi : TyI} (h : fldE C t f = some (off, fi)) : ∃ ti fs fl, C.ty t = some ti ∧ ti.desc = .struct fs ∧ fs[f]? = some fl ∧ C.ty fl.type = some fi ∧ fl.offset = off := by
  unfold fldE at h
  split at h
  · rename_i i hi
    split at h
    · rename_i fs hd
      split at h
      · rename_i fl hf
        obtain ⟨fi', h1, h2⟩ := Option.map_eq_some_iff.1 h
        cases h2
        rw [Array.getElem?_toList] at hf
        exact ⟨i, fs, fl, hi, hd, hf, h1, rfl⟩
      · cases h
    · cases h
  · cases h
theorem isStrT_some {C : Cx} {t : TypeId} (h : isStrT C t = true) : ∃ ti, C.ty t = some ti ∧ ti.desc = .string := by
  unfold isStrT at h
  split at h
  · rename_i i hi
    split at h
    · rename_i hd; exact ⟨i, hi, hd⟩
    · cases h
  · cases h
theorem isBoolT_some {C : Cx} {t : TypeId} (h : isBoolT C t = true) : ∃ ti, C.ty t = some ti ∧ ti.desc = .bool := by
  unfold isBoolT at h
  split at h
  · rename_i i hi
    split at h
    · rename_i hd; exact ⟨i, hi, hd⟩
    · cases h
  · cases h
theorem intT_some {C : Cx} {t : TypeId} {k : IntKind} (h : intT C t = some k) : ∃ ti, C.ty t = some ti ∧ ti.desc = .int k := by
  unfold intT at h
  split at h
  · rename_i i hi
    split at h
    · rename_i k' hd; cases h; exact ⟨i, hi, hd⟩
    · cases h
  · cases h
def AV.fz : AV → AV
  | .own _ xs => .list false xs
  | a => a
theorem Rep.fz' {G : Gh} {a : AV} {v : Value} (h : Rep G a v) : Rep G a.fz v := by
  cases a with
  | own id xs => cases h with | own _ _ _ h _ => exact h
  | _ => exact h
theorem AV.fz_isInt (a : AV) : a.fz.isInt = a.isInt := by cases a <;> rfl
theorem AV.fz_theI (a : AV) : a.fz.theI = a.theI := by cases a <;> rfl
theorem okI_fz (ρ : Operand → AV) (o : Option Operand) : okI (fun y => (ρ y).fz) o = okI ρ o := by
  cases o with
  | none => rfl
  | some x => simp only [okI, AV.fz_isInt, AV.fz_theI]
theorem valI_fz (ρ : Operand → AV) (d : Nat) (o : Option Operand) : valI (fun y => (ρ y).fz) d o = valI ρ d o := by
  cases o with
  | none => rfl
  | some x => simp only [valI, AV.fz_theI]
theorem snd_fz {C : Cx} {o : Oper} {ρ : Operand → AV} {σ : Sto} {r : AR} (h : Snd C o (fun y => (ρ y).fz) σ r) : Snd C o ρ σ r := fun hc w0 G a w hi hr =>
  h hc w0 G a w hi fun y hy => (hr y hy).fz'
def bad (σ : Sto) : AR := ⟨False, .undef, σ⟩
theorem snd_bad {C : Cx} {o : Oper} {ρ : Operand → AV} {σ : Sto} : Snd C o ρ σ (bad σ) := fun h => h.elim
theorem snd_imp {C : Cx} {o : Oper} {ρ : Operand → AV} {σ σ' : Sto} {v : AV} {c c' : Prop} (h : c' → Snd C o ρ σ ⟨c, v, σ'⟩) (hc : c' → c) : Snd C o ρ σ ⟨c', v, σ'⟩ := fun h' => h h' (hc h')
def srcA (C : Cx) (σ : Sto) (t2 : TypeId) (es : Nat) : AV → Prop × List AV
  | .list _ ys => ((slE C t2).isSome = true ∧ (∀ y ∈ ys, y.cells.length = es) ∧ (∀ y ∈ ys, y.cells.all AV.one = true), ys)
  | .own _ ys => ((slE C t2).isSome = true ∧ (∀ y ∈ ys, y.cells.length = es) ∧ (∀ y ∈ ys, y.cells.all AV.one = true), ys)
  | .row id off len =>
      match σ.get id with
      | some (.row es' xs _) => ((slE C t2).isSome = true ∧ es' = es ∧ off + len ≤ xs.length ∧ (∀ y ∈ xs, y.cells.all AV.one = true), (xs.drop off).take len)
      | _ => (False, [])
  | .str s => (isStrT C t2 = true ∧ es = 1, bytesAV s)
  | _ => (False, [])
theorem srcA_ok {C : Cx} {σ : Sto} {t2 : TypeId} {es : Nat} {x : AV} (h : (srcA C σ t2 es x).1) {w0 w : World} {G : Gh} (hi : Inv C.gl w0 G σ w) {X : Value} (hr : Rep G x X) : Src C G w t2 es X (srcA C σ t2 es x).2 := by
  unfold srcA at h ⊢
  split at h
  · rename_i f ys
    obtain ⟨h1, h2, h3⟩ := h
    obtain ⟨ei, hei⟩ := Option.isSome_iff_exists.1 h1
    obtain ⟨ti, e, ht, hd, _⟩ := slE_some hei
    exact src_list hi ht hd hr h2 h3
  · rename_i id ys
    obtain ⟨h1, h2, h3⟩ := h
    obtain ⟨ei, hei⟩ := Option.isSome_iff_exists.1 h1
    obtain ⟨ti, e, ht, hd, _⟩ := slE_some hei
    exact src_list hi ht hd hr.fz h2 h3
  · rename_i id off len
    split at h
    · rename_i es' xs fz hg
      simp only [hg]
      obtain ⟨h1, rfl, h2, h3⟩ := h
      obtain ⟨ei, hei⟩ := Option.isSome_iff_exists.1 h1
      obtain ⟨ti, e, ht, hd, _⟩ := slE_some hei
      exact src_row hi ht hd hg hr h2 h3
    · exact h.elim
  · rename_i s
    obtain ⟨h1, rfl⟩ := h
    obtain ⟨ti, ht, hd⟩ := isStrT_some h1
    exact src_str ht hd hr
  · exact h.elim
def appA (C : Cx) (σ : Sto) (t2 : TypeId) (ei : TyI) (s x : AV) : AR :=
  match s with
  | .list true xs => ⟨(srcA C σ t2 ei.size x).1 ∧ (∀ x ∈ xs, x.cells.length = ei.size) ∧ (∀ x ∈ xs, x.cells.all AV.one = true) ∧ ei.zero.cells.size = ei.size ∧
      (xs.length + (srcA C σ t2 ei.size x).2.length) * ei.bytes ≤ 140737488355328 ∧ xs.length + (srcA C σ t2 ei.size x).2.length ≤ 9223372036854775807,
      .own σ.next (xs ++ (srcA C σ t2 ei.size x).2), σ.add (.tok ei.size (xs.length + (srcA C σ t2 ei.size x).2.length))⟩
  | .row id off len =>
    match σ.get id with
    | some (.row es xs false) => ⟨(srcA C σ t2 ei.size x).1 ∧ off + len = xs.length ∧ es = ei.size ∧ (∀ x ∈ xs, x.cells.all AV.one = true) ∧ ei.zero.cells.size = ei.size ∧
        (len + (srcA C σ t2 ei.size x).2.length) * ei.bytes ≤ 140737488355328 ∧ len + (srcA C σ t2 ei.size x).2.length ≤ 9223372036854775807,
        .row σ.next 0 (len + (srcA C σ t2 ei.size x).2.length), (σ.del id).add (.row es (xs.drop off ++ (srcA C σ t2 ei.size x).2) false)⟩
    | _ => bad σ
  | .own id xs =>
    match σ.get id with
    | some (.tok es n) => ⟨(srcA C σ t2 ei.size x).1 ∧ n = xs.length ∧ es = ei.size ∧ (∀ x ∈ xs, x.cells.length = ei.size) ∧ (∀ x ∈ xs, x.cells.all AV.one = true) ∧ ei.zero.cells.size = ei.size ∧
        (xs.length + (srcA C σ t2 ei.size x).2.length) * ei.bytes ≤ 140737488355328 ∧ xs.length + (srcA C σ t2 ei.size x).2.length ≤ 9223372036854775807,
        .own id (xs ++ (srcA C σ t2 ei.size x).2), σ.set id (.tok es (n + (srcA C σ t2 ei.size x).2.length))⟩
    | _ => bad σ
  | _ => bad σ
def lenA (C : Cx) (σ : Sto) (t : TypeId) (x : AV) : AR :=
  match x with
  | .str s => ⟨isStrT C t = true, .int .i64 s.size, σ⟩
  | .list _ xs => ⟨(slE C t).isSome = true, .int .i64 xs.length, σ⟩
  | .own _ xs => ⟨(slE C t).isSome = true, .int .i64 xs.length, σ⟩
  | .row _ _ len => ⟨(slE C t).isSome = true, .int .i64 len, σ⟩
  | .map id => match σ.get id with
    | some (.mp es) => ⟨(mpE C t).isSome = true, .int .i64 es.length, σ⟩
    | _ => bad σ
  | _ => match arE C t with | some (n, _) => ⟨True, .int .i64 n, σ⟩ | none => bad σ
def mxA (σ : Sto) (x y : AV) : AR := match x, y with | .int k n, .int _ m => ⟨True, .int k (if m > n then m else n), σ⟩ | _, _ => bad σ
def mnA (σ : Sto) (x y : AV) : AR := match x, y with | .int k n, .int _ m => ⟨True, .int k (if m < n then m else n), σ⟩ | _, _ => bad σ
def bltA (C : Cx) (ρ : Operand → AV) (σ : Sto) (b : Builtin) (args : List Operand) (ts : List TypeId) : AR :=
  match b, args, ts with
  | .len, [x], [t] => lenA C σ t (ρ x)
  | .max, [x, y], _ => mxA σ (ρ x) (ρ y)
  | .min, [x, y], _ => mnA σ (ρ x) (ρ y)
  | .append, [s, x], [t, t2] => match slE C t with | some ei => appA C σ t2 ei (ρ s) (ρ x) | none => bad σ
  | _, _, _ => bad σ
def loadA (i : TyI) (σ : Sto) (a : AV) : AR :=
  match a with
  | .ptr id k => match σ.get id with | some (.box cs) => ⟨rdOK i cs k, rdC i cs k, σ⟩ | _ => bad σ
  | .eptr cs k => ⟨rdOK i cs k, rdC i cs k, σ⟩
  | .rptr id n k => match σ.get id with | some (.row _ xs _) => ⟨n < xs.length ∧ rdOK i (xs.getD n .undef).cells k, rdC i (xs.getD n .undef).cells k, σ⟩ | _ => bad σ
  | _ => bad σ
def storeA (i : TyI) (σ : Sto) (a y : AV) : AR :=
  match a with
  | .ptr id k => match σ.get id with
    | some (.box cs) => ⟨y.def = true ∧ y.cells.length = i.size ∧ k + i.size ≤ cs.length ∧ y.cells.all AV.one = true, .undef, σ.set id (.box (wr cs k y.cells))⟩
    | _ => bad σ
  | .rptr id n k => match σ.get id with
    | some (.row es xs false) => ⟨n < xs.length ∧ y.def = true ∧ y.cells.length = i.size ∧ k + i.size ≤ es ∧ y.cells.all AV.one = true, .undef,
        σ.set id (.row es (xs.set n (if es = 1 ∧ i.size = 1 then y.cells.getD 0 .undef else .agg (wr (xs.getD n .undef).cells k y.cells))) false)⟩
    | _ => bad σ
  | _ => bad σ
def idxA (C : Cx) (σ : Sto) (t : TypeId) (x ix : AV) : AR :=
  match x with
  | .list _ xs => match slE C t with
    | some ei => ⟨ix.isInt = true ∧ 0 ≤ ix.theI ∧ ix.theI < xs.length ∧ (xs.getD ix.theI.toNat .undef).cells.length = ei.size, .eptr (xs.getD ix.theI.toNat .undef).cells 0, σ⟩
    | none => bad σ
  | .own _ xs => match slE C t with
    | some ei => ⟨ix.isInt = true ∧ 0 ≤ ix.theI ∧ ix.theI < xs.length ∧ (xs.getD ix.theI.toNat .undef).cells.length = ei.size, .eptr (xs.getD ix.theI.toNat .undef).cells 0, σ⟩
    | none => bad σ
  | .row id off len => match slE C t, σ.get id with
    | some ei, some (.row es _ _) => ⟨ix.isInt = true ∧ 0 ≤ ix.theI ∧ ix.theI < len ∧ es = ei.size, .rptr id (off + ix.theI.toNat) 0, σ⟩
    | _, _ => bad σ
  | x => match arE C t with
    | some (n, ei) => ⟨x.isAddr = true ∧ ix.isInt = true ∧ 0 ≤ ix.theI ∧ ix.theI < n, x.shift (ix.theI.toNat * ei.size), σ⟩
    | none => bad σ
def ixvA (C : Cx) (σ : Sto) (t : TypeId) (x ix : AV) : AR :=
  match x with
  | .agg cs => match arE C t with
    | some (n, ei) => ⟨ix.isInt = true ∧ 0 ≤ ix.theI ∧ ix.theI < n ∧ rdOK ei cs (ix.theI.toNat * ei.size), rdC ei cs (ix.theI.toNat * ei.size), σ⟩
    | none => bad σ
  | .str s => ⟨isStrT C t = true ∧ ix.isInt = true ∧ 0 ≤ ix.theI ∧ ix.theI < s.size, .int .u8 (byteAt s ix.theI.toNat), σ⟩
  | _ => bad σ
def isIfT (C : Cx) (t : TypeId) : Bool := match C.ty t with | some i => (match i.desc with | .interface ms => ms.isEmpty | _ => false) | none => false
theorem isIfT_some {C : Cx} {t : TypeId} (h : isIfT C t = true) : ∃ ti ms, C.ty t = some ti ∧ ti.desc = .interface ms ∧ ms.isEmpty = true := by
  unfold isIfT at h
  split at h
  · rename_i i hi
    split at h
    · rename_i ms hd; exact ⟨i, ms, hi, hd, h⟩
    · cases h
  · cases h
def binA (C : Cx) (σ : Sto) (op : BinOp) (t : TypeId) (x y : AV) : AR :=
  match x, y with
  | .int k n, .int k2 m => ⟨(aInt op k n k2 m).1, (aInt op k n k2 m).2, σ⟩
  | .str n, .str m => ⟨(aStr op n m).1, (aStr op n m).2, σ⟩
  | .bool n, .bool m => ⟨isBoolT C t = true ∧ (op = .eql ∨ op = .neq), .bool (if op = .eql then n == m else !(n == m)), σ⟩
  | .nili, .nili => ⟨isIfT C t = true ∧ (op = .eql ∨ op = .neq), .bool (if op = .eql then true else false), σ⟩
  | .iface _ _, .nili => ⟨isIfT C t = true ∧ (op = .eql ∨ op = .neq), .bool (if op = .eql then false else true), σ⟩
  | .agg cs, .agg ds => ⟨(KeyOK C t (AV.agg cs).shp ∧ C.P.eqGuardType C.P.depth t = false ∧ (AV.agg ds).shp = (AV.agg cs).shp ∧ (AV.agg cs).pv.isSome = true ∧ (AV.agg ds).pv.isSome = true) ∧ (op = .eql ∨ op = .neq),
      .bool (if op = .eql then peqL cs ds else !peqL cs ds), σ⟩
  | _, _ => bad σ
def isU8T (C : Cx) (t : TypeId) : Bool := match slE C t with | some i => (match i.desc with | .int .u8 => true | _ => false) | none => false
theorem isU8T_some {C : Cx} {t : TypeId} (h : isU8T C t = true) : ∃ ti e ei, C.ty t = some ti ∧ ti.desc = .slice e ∧ C.ty e = some ei ∧ ei.desc = .int .u8 := by
  unfold isU8T at h
  split at h
  · rename_i i hi
    split at h
    · rename_i hd
      obtain ⟨ti, e, h1, h2, h3⟩ := slE_some hi
      exact ⟨ti, e, i, h1, h2, h3, hd⟩
    · cases h
  · cases h
def tasA (C : Cx) (σ : Sto) (t : TypeId) (ok : Bool) (x : AV) : AR :=
  match x with
  | .iface t2 v => match C.ty t with
    | some ti => ⟨ok = true ∧ t = t2 ∧ ∀ ms, ti.desc ≠ .interface ms, .tup [v, .bool true], σ⟩
    | none => bad σ
  | _ => bad σ
def notI (k : IntKind) (n : Int) : Int := k.wrap ((BitVec.ofInt k.bits (if k.signed then -1 else k.max) ^^^ BitVec.ofInt k.bits n).toNat : Int)
def unA (σ : Sto) (op : UnOp) (x : AV) : AR :=
  match op, x with
  | .not, .bool b => ⟨True, .bool (!b), σ⟩
  | .neg, .int k n => ⟨True, .int k (k.wrap (0 - n)), σ⟩
  | .xor, .int k n => ⟨True, .int k (notI k n), σ⟩
  | _, _ => bad σ
def cnvA (C : Cx) (σ : Sto) (src dst : TypeId) (x : AV) : AR :=
  match x with
  | .int k n => match intT C dst with | some q => ⟨(C.ty src).isSome = true, .int q (q.wrap n), σ⟩ | none => bad σ
  | .str s => ⟨(C.ty src).isSome = true ∧ isStrT C dst = true, .str s, σ⟩
  | .list _ xs => ⟨isU8T C src = true ∧ isStrT C dst = true ∧ xs.all AV.isU8 = true, .str (byA xs), σ⟩
  | .own _ xs => ⟨isU8T C src = true ∧ isStrT C dst = true ∧ xs.all AV.isU8 = true, .str (byA xs), σ⟩
  | _ => bad σ
def slcA (C : Cx) (ρ : Operand → AV) (σ : Sto) (t : TypeId) (x : AV) (lo hi : Option Operand) : AR :=
  match x with
  | .str s => ⟨isStrT C t = true ∧ okI ρ lo ∧ okI ρ hi ∧ valI ρ 0 lo ≤ valI ρ s.size hi ∧ valI ρ s.size hi ≤ s.size, .str (s.extract (valI ρ 0 lo) (valI ρ s.size hi)), σ⟩
  | .list full xs => match slE C t with
    | some ei => ⟨okI ρ lo ∧ okI ρ hi ∧ valI ρ 0 lo ≤ valI ρ xs.length hi ∧ valI ρ xs.length hi ≤ xs.length ∧ (∀ x ∈ xs, x.cells.length = ei.size), .list (full && hi.isNone) ((xs.take (valI ρ xs.length hi)).drop (valI ρ 0 lo)), σ⟩
    | none => bad σ
  | .own _ xs => match slE C t with
    | some ei => ⟨okI ρ lo ∧ okI ρ hi ∧ valI ρ 0 lo ≤ valI ρ xs.length hi ∧ valI ρ xs.length hi ≤ xs.length ∧ (∀ x ∈ xs, x.cells.length = ei.size), .list (false && hi.isNone) ((xs.take (valI ρ xs.length hi)).drop (valI ρ 0 lo)), σ⟩
    | none => bad σ
  | .row id off len => match slE C t, σ.get id with
    | some ei, some (.row es _ _) => ⟨okI ρ lo ∧ okI ρ hi ∧ valI ρ 0 lo ≤ valI ρ len hi ∧ valI ρ len hi ≤ len ∧ es = ei.size, .row id (off + valI ρ 0 lo) (valI ρ len hi - valI ρ 0 lo), σ⟩
    | _, _ => bad σ
  | _ => bad σ
def mkslA (C : Cx) (σ : Sto) (t : TypeId) (x y : AV) : AR :=
  match slE C t, x, y with
  | some ei, .int _ n, .int _ c => ⟨0 ≤ n ∧ n ≤ c ∧ c * ei.bytes ≤ 281474976710656 ∧ c ≤ 281474976710656 ∧ (ofV ei.zero).def = true ∧ (ofV ei.zero).cells.length = ei.size ∧ 0 < ei.size,
      .row σ.next 0 n.toNat, σ.add (.row ei.size (List.replicate n.toNat (ofV ei.zero)) false)⟩
  | _, _, _ => bad σ
def fldA (σ : Sto) (fe : Option (Nat × TyI)) (x : AV) : AR :=
  match fe, x with
  | some (off, fi), .agg cs => ⟨rdOK fi cs off, rdC fi cs off, σ⟩
  | _, _ => bad σ
def faA (σ : Sto) (fe : Option (Nat × TyI)) (x : AV) : AR :=
  match fe with
  | some (off, fi) => ⟨fi.size ≠ 0 ∧ x.isAddr = true, x.shift off, σ⟩
  | none => bad σ
def extA (σ : Sto) (x : AV) (k : Nat) : AR := match x with | .tup vs => ⟨k < vs.length, vs.getD k .undef, σ⟩ | _ => bad σ
def bldA (σ : Sto) (be : Option (List AV × (Nat → Option (Nat × Nat)))) (parts : List (Nat × AV)) : AR :=
  match be with
  | some (z, pl) => ⟨(fillA pl z parts).isSome = true, .agg ((fillA pl z parts).getD []), σ⟩
  | none => bad σ
def bslA (σ : Sto) (se : Option TyI) (n : Nat) (parts : List (Nat × AV)) : AR :=
  match se with
  | some ei => ⟨(ofV ei.zero).def = true ∧ (ofV ei.zero).cells.length = ei.size ∧ 0 < ei.size ∧ n * ei.size ≤ 16777216 ∧ (fillL ei.size (List.replicate n (ofV ei.zero)) parts).isSome = true,
      .list true ((fillL ei.size (List.replicate n (ofV ei.zero)) parts).getD []), σ⟩
  | none => bad σ
def allocA (σ : Sto) (te : Option TyI) : AR := match te with | some i => ⟨(ofV i.zero).def = true, .ptr σ.next 0, σ.add (.box (ofV i.zero).cells)⟩ | none => bad σ
def mkfA (ρ : Operand → AV) (σ : Sto) (f : Fn) (first cap : List Operand) : AR := match f, first with | .func f, [] => ⟨True, .fn f (cap.map ρ), σ⟩ | _, _ => bad σ
def ifaceA (C : Cx) (σ : Sto) (t : TypeId) (x : AV) : AR := match C.ty t with | some ti => ⟨∀ ms, ti.desc ≠ .interface ms, .iface t x, σ⟩ | none => bad σ
def lkpA (C : Cx) (σ : Sto) (t : TypeId) (x k : AV) (ok : Bool) : AR :=
  match mpE C t, x with
  | some (kt, ei), .map id => match σ.get id with
    | some (.mp es) => ⟨KeyOK C kt k.shp ∧ k.pv.isSome = true ∧ ∀ e ∈ es, e.1.shp = k.shp, lookA (ofV ei.zero) (mget k es) ok, σ⟩
    | _ => bad σ
  | some (kt, ei), .nilm => ⟨KeyOK C kt k.shp ∧ k.pv.isSome = true, lookA (ofV ei.zero) none ok, σ⟩
  | _, _ => bad σ
def mupA (C : Cx) (σ : Sto) (t : TypeId) (x k y : AV) : AR :=
  match mpE C t, x with
  | some (kt, _), .map id => match σ.get id with
    | some (.mp es) => ⟨KeyOK C kt k.shp ∧ k.pv.isSome = true ∧ ∀ e ∈ es, e.1.shp = k.shp, .undef, σ.set id (.mp (mput k y es))⟩
    | _ => bad σ
  | _, _ => bad σ
def rngA (C : Cx) (σ : Sto) (t : TypeId) (x : AV) : AR := match x with | .str s => ⟨isStT C t = true, .ptr σ.next 0, σ.add (.itr s 0)⟩ | _ => bad σ
def nxtA (σ : Sto) (x : AV) (isS : Bool) : AR :=
  match isS, x with
  | true, .ptr id 0 => match σ.get id with
    | some (.itr s pos) => if pos < s.size then ⟨True, nxtV s pos, σ.set id (.itr s (pos + (Utf8.decode s pos).2))⟩ else ⟨True, .tup [.bool false], σ⟩
    | _ => bad σ
  | _, _ => bad σ
def mkmA (σ : Sto) (r : Option Operand) : AR := match r with | none => ⟨True, .map σ.next, σ.add (.mp [])⟩ | some _ => bad σ
def AV.isFn : AV → Bool
  | .fn _ _ => true
  | _ => false
def aop (C : Cx) (ρ : Operand → AV) (σ : Sto) : Op → AR
  | .move x => ⟨True, ρ x, σ⟩
  | .assign x => ⟨True, ρ x, σ⟩
  | .pick c x y => ⟨(ρ c).isBool = true, if (ρ c).theB = true then ρ x else ρ y, σ⟩
  | .box t x => ⟨(ρ x).def = true, .ptr σ.next 0, σ.add (.box (ρ x).cells)⟩
  | .alloc t => allocA σ (C.ty t)
  | .load t x => match C.ty t with | some i => loadA i σ (ρ x) | none => bad σ
  | .store t x y => match C.ty t with | some i => storeA i σ (ρ x) (ρ y) | none => bad σ
  | .fieldAddr t x f => faA σ (fldE C t f) (ρ x)
  | .field t x f => fldA σ (fldE C t f) (ρ x)
  | .indexAddr t x ix => idxA C σ t (ρ x) (ρ ix)
  | .index t x ix => ixvA C σ t (ρ x) (ρ ix)
  | .extract x k => extA σ (ρ x) k
  | .binOp op t x y t' => binA C σ op t (ρ x) (ρ y)
  | .typeAssert x t' t ok => tasA C σ t ok (ρ x)
  | .unOp op t x => unA σ op (ρ x)
  | .nilCheck x => ⟨(ρ x).isAddr = true ∨ (ρ x).isFn = true, ρ x, σ⟩
  | .makeFunc f first cap => mkfA ρ σ f first.toList cap.toList
  | .convert src dst x => cnvA C σ src dst (ρ x)
  | .makeInterface t x => ifaceA C σ t (ρ x)
  | .build t parts => bldA σ (bldE C t) (parts.toList.map fun p => (p.1, ρ p.2))
  | .buildSlice t n parts => bslA σ (slE C t) n (parts.toList.map fun p => (p.1, ρ p.2))
  | .slice t x lo hi mx => match mx with | none => slcA C ρ σ t (ρ x) lo hi | some _ => bad σ
  | .makeSlice t x y => mkslA C σ t (ρ x) (ρ y)
  | .makeMap t r => mkmA σ r
  | .range t x => rngA C σ t (ρ x)
  | .next x b => nxtA σ (ρ x) b
  | .lookup t x k ok => lkpA C σ t (ρ x) (ρ k) ok
  | .mapUpdate t x k y => mupA C σ t (ρ x) (ρ k) (ρ y)
  | .insert t x k y => mupA C σ t (ρ x) (ρ k) (ρ y)
  | .call cl => match cl.callee with | .builtin b => bltA C ρ σ b cl.args.toList cl.argTypes.toList | _ => bad σ
  | _ => bad σ
theorem arr1 {α : Type} {xs : Array α} {x : α} (h : xs.toList = [x]) : xs = #[x] := by cases xs; simp_all
theorem arr2 {α : Type} {xs : Array α} {x y : α} (h : xs.toList = [x, y]) : xs = #[x, y] := by cases xs; simp_all
theorem arr0 {α : Type} {xs : Array α} (h : xs.toList = []) : xs = #[] := by cases xs; simp_all
section
variable {C : Cx} {ρ : Operand → AV} {σ : Sto} {o : Oper}
theorem bltA_sound (b : Builtin) (as : Array Operand) (ts : Array TypeId) (ho : o.op = .call { callee := .builtin b, args := as, argTypes := ts }) : Snd C o ρ σ (bltA C ρ σ b as.toList ts.toList) := by
  unfold bltA
  split
  · rename_i x t h1 h2
    rw [arr1 h1, arr1 h2] at ho
    unfold lenA
    split
    · rename_i s hx
      refine fun hc => ?_
      obtain ⟨ti, ht, hd⟩ := isStrT_some hc
      exact snd_len_str ht hd ho hx trivial
    · rename_i f xs hx
      refine fun hc => ?_
      obtain ⟨ei, hei⟩ := Option.isSome_iff_exists.1 hc
      obtain ⟨ti, e, ht, hd, _⟩ := slE_some hei
      exact snd_len_list ht hd ho hx trivial
    · rename_i id xs hx
      refine fun hc => ?_
      obtain ⟨ei, hei⟩ := Option.isSome_iff_exists.1 hc
      obtain ⟨ti, e, ht, hd, _⟩ := slE_some hei
      exact snd_fz (snd_imp (fun _ => snd_len_list (σ := σ) (ρ := fun y => (ρ y).fz) (f := false) (xs := xs) ht hd ho (by rw [hx]; rfl)) fun _ => trivial) hc
    · rename_i id off len hx
      refine fun hc => ?_
      obtain ⟨ei, hei⟩ := Option.isSome_iff_exists.1 hc
      obtain ⟨ti, e, ht, hd, _⟩ := slE_some hei
      exact snd_len_row ht hd ho hx trivial
    · rename_i id hx
      split
      · rename_i es hs
        refine fun hc => ?_
        obtain ⟨⟨kt, ei⟩, hei⟩ := Option.isSome_iff_exists.1 hc
        obtain ⟨ti, e, ht, hd, _⟩ := mpE_some hei
        exact snd_len_map ht hd ho hx hs trivial
      · exact snd_bad
    · split
      · rename_i n ei h
        obtain ⟨ti, e, ht, hd, _⟩ := arE_some h
        exact snd_len_arr ht hd ho
      · exact snd_bad
  · rename_i x y h1
    rw [arr2 h1] at ho
    unfold mxA
    split
    · rename_i hx hy; exact snd_max ho hx hy
    · exact snd_bad
  · rename_i x y h1
    rw [arr2 h1] at ho
    unfold mnA
    split
    · rename_i hx hy; exact snd_min ho hx hy
    · exact snd_bad
  · rename_i s x t t2 h1 h2
    rw [arr2 h1, arr2 h2] at ho
    split
    · rename_i ei hei
      obtain ⟨ti, e, ht, hd, he⟩ := slE_some hei
      unfold appA
      split
      · rename_i xs hs
        exact snd_imp (fun h => snd_append_full' ht hd he ho hs fun w0 G a w hi hr => srcA_ok h.1 hi hr) fun h => h.2
      · rename_i id off len hs
        split
        · rename_i es xs hg
          exact snd_imp (fun h => snd_append_row ht hd he ho hs hg fun w0 G a w hi hr => srcA_ok h.1 hi hr) fun h => h.2
        · exact snd_bad
      · rename_i id xs hs
        split
        · rename_i es n hg
          exact snd_imp (fun h => snd_append_own ht hd he ho hs hg fun w0 G a w hi hr => srcA_ok h.1 hi hr) fun h => h.2
        · exact snd_bad
      · exact snd_bad
    · exact snd_bad
  · exact snd_bad
theorem getD_some {xs : List AV} {n : Nat} (h : n < xs.length) : xs[n]? = some (xs.getD n .undef) := by rw [List.getD_eq_getElem?_getD, List.getElem?_eq_getElem h]; rfl
theorem aop_sound : Snd C o ρ σ (aop C ρ σ o.op) := by
  unfold aop
  split
  · rename_i x ho; exact snd_move (.inl ho)
  · rename_i x ho; exact snd_move (.inr ho)
  · rename_i c x y ho; exact snd_pick ho
  · rename_i t x ho; exact snd_box ho
  · rename_i t ho
    unfold allocA
    split
    · rename_i i ht; exact snd_alloc ht ho
    · exact snd_bad
  · rename_i t x ho
    split
    · rename_i i ht
      unfold loadA
      split
      · rename_i id k hx
        split
        · rename_i cs hs; exact snd_load_box ht ho hx hs
        · exact snd_bad
      · rename_i cs k hx; exact snd_load_imm ht ho hx
      · rename_i id n k hx
        split
        · rename_i es xs fz hs; exact fun hc => snd_load_row ht ho hx hs (getD_some hc.1) hc.2
        · exact snd_bad
      · exact snd_bad
    · exact snd_bad
  · rename_i t x y ho
    split
    · rename_i i ht
      unfold storeA
      split
      · rename_i id k hx
        split
        · rename_i cs hs; exact snd_store_box ht ho hx hs
        · exact snd_bad
      · rename_i id n k hx
        split
        · rename_i es xs hs; exact fun hc => snd_store_row ht ho hx hs (getD_some hc.1) hc.2
        · exact snd_bad
      · exact snd_bad
    · exact snd_bad
  · rename_i t x f ho
    unfold faA
    split
    · rename_i off fi h
      obtain ⟨ti, fs, fl, ht, hd, hf, hfi, rfl⟩ := fldE_some h
      exact snd_fieldAddr ht hd hf hfi ho
    · exact snd_bad
  · rename_i t x f ho
    unfold fldA
    split
    · rename_i off fi cs h hx
      obtain ⟨ti, fs, fl, ht, hd, hf, hfi, rfl⟩ := fldE_some h
      exact snd_field ht hd hf hfi ho hx
    · exact snd_bad
  · rename_i t x ix ho
    unfold idxA
    split
    · rename_i f xs hx
      split
      · rename_i ei h
        obtain ⟨ti, e, ht, hd, he⟩ := slE_some h
        exact snd_indexAddr_list ht hd he ho hx
      · exact snd_bad
    · rename_i id xs hx
      split
      · rename_i ei h
        obtain ⟨ti, e, ht, hd, he⟩ := slE_some h
        have := snd_fz (snd_indexAddr_list (σ := σ) (ρ := fun y => (ρ y).fz) (full := false) (xs := xs) ht hd he ho (by rw [hx]; rfl))
        simp only [AV.fz_isInt, AV.fz_theI] at this
        exact this
      · exact snd_bad
    · rename_i id off len hx
      split
      · rename_i ei es xs fz h hs
        obtain ⟨ti, e, ht, hd, he⟩ := slE_some h
        exact snd_indexAddr_row ht hd he ho hx hs
      · exact snd_bad
    · split
      · rename_i n ei h
        obtain ⟨ti, e, ht, hd, he⟩ := arE_some h
        exact snd_indexAddr_arr ht hd he ho
      · exact snd_bad
  · rename_i t x ix ho
    unfold ixvA
    split
    · rename_i cs hx
      split
      · rename_i n ei h
        obtain ⟨ti, e, ht, hd, he⟩ := arE_some h
        exact snd_index_arr ht hd he ho hx
      · exact snd_bad
    · rename_i s hx
      refine fun hc => ?_
      obtain ⟨ti, ht, hd⟩ := isStrT_some hc.1
      exact snd_index_str ht hd ho hx hc.2
    · exact snd_bad
  · rename_i x k ho
    unfold extA
    split
    · rename_i vs hx; exact fun hc => snd_extract ho hx (getD_some hc) trivial
    · exact snd_bad
  · rename_i op t x y t' ho
    unfold binA
    split
    · rename_i k n k2 m hx hy; exact snd_bin_int ho hx hy
    · rename_i n m hx hy; exact snd_bin_str ho hx hy
    · rename_i n m hx hy
      refine fun hc => ?_
      obtain ⟨ti, ht, hd⟩ := isBoolT_some hc.1
      exact snd_bin_bool ht hd ho hx hy hc.2
    · rename_i hx hy
      refine fun hc => ?_
      obtain ⟨ti, ms, ht, hd, hms⟩ := isIfT_some hc.1
      exact snd_bin_nili ht hd hms ho hx hy hc.2
    · rename_i t2 v hx hy
      refine fun hc => ?_
      obtain ⟨ti, ms, ht, hd, hms⟩ := isIfT_some hc.1
      exact snd_bin_iface ht hd ho hx hy hc.2
    · rename_i cs ds hx hy; exact snd_bin_agg ho hx hy
    · exact snd_bad
  · rename_i x t' t ok ho
    unfold tasA
    split
    · rename_i t2 v hx
      split
      · rename_i ti ht
        intro hc
        obtain ⟨h1, h2, h3⟩ := hc
        subst h2
        rw [h1] at ho
        exact snd_typeAssert ht ho hx h3
      · exact snd_bad
    · exact snd_bad
  · rename_i op t x ho
    unfold unA
    split
    · rename_i b hx
      have h := snd_not (C := C) (σ := σ) (ρ := ρ) ho
      rw [hx] at h
      exact snd_imp (fun _ => h) fun _ => rfl
    · rename_i k n hx; exact snd_neg ho hx
    · rename_i k n hx; exact snd_inv ho hx
    · exact snd_bad
  · rename_i x ho
    refine snd_imp (fun _ => snd_nilCheck ho) fun h => h.imp id fun h => ?_
    cases hx : ρ x <;> simp_all [AV.isFn]
  · rename_i f first cap ho
    unfold mkfA
    split
    · rename_i f' hf
      rw [arr0 hf] at ho
      exact snd_makeFunc ho
    · exact snd_bad
  · rename_i src dst x ho
    unfold cnvA
    split
    · rename_i k n hx
      split
      · rename_i q h
        obtain ⟨di, hd, hq⟩ := intT_some h
        refine fun hc => ?_
        obtain ⟨si, hs⟩ := Option.isSome_iff_exists.1 hc
        exact snd_convert_int hs hd hq ho hx trivial
      · exact snd_bad
    · rename_i s hx
      refine fun hc => ?_
      obtain ⟨si, hs⟩ := Option.isSome_iff_exists.1 hc.1
      obtain ⟨di, hd, hq⟩ := isStrT_some hc.2
      exact snd_convert_str hs hd hq ho hx trivial
    · rename_i f xs hx
      refine fun hc => ?_
      obtain ⟨si, e, ei, h1, h2, h3, h4⟩ := isU8T_some hc.1
      obtain ⟨di, hd, hq⟩ := isStrT_some hc.2.1
      exact snd_bytes h1 h2 h3 h4 hd hq ho hx hc.2.2
    · rename_i id xs hx
      refine snd_fz fun hc => ?_
      obtain ⟨si, e, ei, h1, h2, h3, h4⟩ := isU8T_some hc.1
      obtain ⟨di, hd, hq⟩ := isStrT_some hc.2.1
      exact snd_bytes h1 h2 h3 h4 hd hq ho (f := false) (by show (ρ x).fz = _; rw [hx]; rfl) hc.2.2
    · exact snd_bad
  · rename_i t x ho
    unfold ifaceA
    split
    · rename_i ti ht; exact snd_makeInterface ht ho
    · exact snd_bad
  · rename_i t parts ho
    unfold bldA
    split
    · rename_i z pl h
      unfold bldE at h
      split at h
      · rename_i ti ht
        split at h
        · rename_i fs hd
          split at h
          · rename_i hc
            cases h
            exact snd_imp (fun _ => snd_build_struct ht hd hc.1 ho) fun h => ⟨hc.2, h⟩
          · cases h
        · rename_i n e hd
          split at h
          · rename_i ei he
            split at h
            · rename_i hc
              cases h
              exact snd_imp (fun _ => snd_build_arr ht hd he ho) fun h => ⟨hc, h⟩
            · cases h
          · cases h
        · cases h
      · cases h
    · exact snd_bad
  · rename_i t n parts ho
    unfold bslA
    split
    · rename_i ei h
      obtain ⟨ti, e, ht, hd, he⟩ := slE_some h
      exact snd_buildSlice ht hd he ho
    · exact snd_bad
  · rename_i t x lo hi mx ho
    split
    · unfold slcA
      split
      · rename_i s hx
        refine fun hc => ?_
        obtain ⟨ti, ht, hd⟩ := isStrT_some hc.1
        exact snd_slice_str ht hd ho hx hc.2
      · rename_i full xs hx
        split
        · rename_i ei h
          obtain ⟨ti, e, ht, hd, he⟩ := slE_some h
          exact snd_slice_list ht hd he ho hx
        · exact snd_bad
      · rename_i id xs hx
        split
        · rename_i ei h
          obtain ⟨ti, e, ht, hd, he⟩ := slE_some h
          have := snd_fz (snd_slice_list (σ := σ) (ρ := fun y => (ρ y).fz) (full := false) (xs := xs) ht hd he ho (by rw [hx]; rfl))
          simp only [okI_fz, valI_fz] at this
          exact this
        · exact snd_bad
      · rename_i id off len hx
        split
        · rename_i ei es xs fz h hs
          obtain ⟨ti, e, ht, hd, he⟩ := slE_some h
          exact snd_slice_row ht hd he ho hx hs
        · exact snd_bad
      · exact snd_bad
    · exact snd_bad
  · rename_i t x y ho
    unfold mkslA
    split
    · rename_i ei k n q c h hx hy
      obtain ⟨ti, e, ht, hd, he⟩ := slE_some h
      exact snd_makeSlice ht hd he ho hx hy
    · exact snd_bad
  · rename_i t r ho
    unfold mkmA
    split
    · exact snd_makeMap rfl ho
    · exact snd_bad
  · rename_i t x ho
    unfold rngA
    split
    · rename_i s hx; exact snd_range ho hx
    · exact snd_bad
  · rename_i x b ho
    unfold nxtA
    split
    · rename_i id hx
      split
      · rename_i s pos hs
        split
        · rename_i hp; exact snd_next ho hx hs hp
        · rename_i hp; exact snd_over ho hx hs hp
      · exact snd_bad
    · exact snd_bad
  · rename_i t x k ok ho
    unfold lkpA
    split
    · rename_i kt ei id h hx
      obtain ⟨ti, e, ht, hd, he⟩ := mpE_some h
      split
      · rename_i es hs; exact snd_lookup ht hd he ho hx hs
      · exact snd_bad
    · rename_i kt ei h hx
      obtain ⟨ti, e, ht, hd, he⟩ := mpE_some h
      exact snd_lookup_nil ht hd he ho hx
    · exact snd_bad
  · rename_i t x k y ho
    unfold mupA
    split
    · rename_i kt ei id h hx
      obtain ⟨ti, e, ht, hd, he⟩ := mpE_some h
      split
      · rename_i es hs; exact snd_mapUpdate ht hd (.inl ho) hx hs
      · exact snd_bad
    · exact snd_bad
  · rename_i t x k y ho
    unfold mupA
    split
    · rename_i kt ei id h hx
      obtain ⟨ti, e, ht, hd, he⟩ := mpE_some h
      split
      · rename_i es hs; exact snd_mapUpdate ht hd (.inr ho) hx hs
      · exact snd_bad
    · exact snd_bad
  · rename_i cl ho
    split
    · rename_i b hb
      refine bltA_sound b cl.args cl.argTypes ?_
      rw [ho, ← hb]
    · exact snd_bad
  · exact snd_bad
theorem aop_noDefer (h : (aop C ρ σ o.op).c) : ∀ c, o.op ≠ .defer c := by
  intro c hc
  rw [hc] at h
  exact h
end
end Go.Lg
/- Lg, part J: what a code asks and comes to, in the manner of a weakest precondition; contracts of functions. -/
namespace Go.Lg
open Go.RowKit
structure RO where
  dst : Option Nat
  op : Op
  gd : Option (Operand × Bool)
def roOf (ops : Array Oper) (o : Oper) : RO :=
  ⟨o.dst, o.op, match o.guard with | none => none | some (j, want) => some (match (ops[j]?).bind (·.dst) with | some d => .tmp d | none => .const (.tuple #[]), want)⟩
def isCall : Op → Bool
  | .call c => match c.callee with
    | .value _ => true
    | .builtin b => (match b with | .append => true | .copy => true | .delete => true | .clear => true | _ => false)
    | _ => false
  | .mapEntry .. | .entryStore .. | .entry .. => true
  | _ => false
def gdR (C : Cx) (nt : Nat) (g : Option (Operand × Bool)) (env : Env) (yes no : Prop) : Prop :=
  match g with
  | none => yes
  | some (x, want) => (ev C nt env x).isGd = true ∧ if ((ev C nt env x).goes want) = true then yes else no
def callR (C : Cx) (ρ : Operand → AV) (σ : Sto) (op : Op) (K : AV → Sto → Prop) : Prop := ∃ v σ1, (∀ o : Oper, o.op = op → OpStep C o ρ σ v σ1) ∧ K v σ1
def wpr (C : Cx) (nt : Nat) : List RO → (Env → Sto → Prop) → Env → Sto → Prop
  | [], K => K
  | r :: rs, K => fun env σ => gdR C nt r.gd env
      (if isCall r.op = true then callR C (ev C nt env) σ r.op (fun v σ1 => wpr C nt rs K (putA env r.dst v) σ1)
       else (aop C (ev C nt env) σ r.op).c ∧ wpr C nt rs K (putA env r.dst (aop C (ev C nt env) σ r.op).v) (aop C (ev C nt env) σ r.op).s)
      (wpr C nt rs K (putA env r.dst .skp) σ)
def callK (C : Cx) (nt : Nat) (d : Option Nat) (cl : Call) (rs : List RO) (K : Env → Sto → Prop) (env : Env) (σ : Sto) : Prop :=
  callR C (ev C nt env) σ (.call cl) (fun v σ1 => wpr C nt rs K (putA env d v) σ1)
def gdW (C : Cx) (nt : Nat) (g : AV) (want : Bool) (d : Option Nat) (op : Op) (rs : List RO) (K : Env → Sto → Prop) (env : Env) (σ : Sto) : Prop :=
  g.isGd = true ∧ if (g.goes want) = true then wpr C nt (⟨d, op, none⟩ :: rs) K env σ else wpr C nt rs K (putA env d .skp) σ
section
variable {C : Cx} {nt : Nat} {d : Option Nat} {op : Op} {rs : List RO} {K : Env → Sto → Prop} {env : Env} {σ : Sto}
theorem wpr_nil : wpr C nt [] K env σ = K env σ := (rfl)
theorem wpr_op (h : isCall op = false) : wpr C nt (⟨d, op, none⟩ :: rs) K env σ = ((aop C (ev C nt env) σ op).c ∧ wpr C nt rs K (putA env d (aop C (ev C nt env) σ op).v) (aop C (ev C nt env) σ op).s) := by
  simp only [wpr, gdR, h, Bool.false_eq_true, if_false]
theorem wpr_call {f : Operand} {as : Array Operand} {ts : Array TypeId} : wpr C nt (⟨d, .call ⟨.value f, as, ts⟩, none⟩ :: rs) K env σ = callK C nt d ⟨.value f, as, ts⟩ rs K env σ := (rfl)
theorem wpr_gd {x : Operand} {w : Bool} : wpr C nt (⟨d, op, some (x, w)⟩ :: rs) K env σ = gdW C nt (ev C nt env x) w d op rs K env σ := (rfl)
theorem gdW_tt : gdW C nt (.bool true) true d op rs K env σ = wpr C nt (⟨d, op, none⟩ :: rs) K env σ := by simp [gdW, AV.isGd, AV.goes]
theorem gdW_ff : gdW C nt (.bool false) false d op rs K env σ = wpr C nt (⟨d, op, none⟩ :: rs) K env σ := by simp [gdW, AV.isGd, AV.goes]
theorem gdW_tf : gdW C nt (.bool true) false d op rs K env σ = wpr C nt rs K (putA env d .skp) σ := by simp [gdW, AV.isGd, AV.goes]
theorem gdW_ft : gdW C nt (.bool false) true d op rs K env σ = wpr C nt rs K (putA env d .skp) σ := by simp [gdW, AV.isGd, AV.goes]
theorem gdW_skp {w : Bool} : gdW C nt (.tup []) w d op rs K env σ = wpr C nt rs K (putA env d .skp) σ := by simp [gdW, AV.isGd, AV.goes]
end
theorem guard_ro {C : Cx} {nt : Nat} {ops : Array Oper} {o : Oper} {env : Env} {yes no : Prop} (h : gdR C nt (roOf ops o).gd env yes no) :
    gOK (guardA nt ops env o) ∧ (goesA (guardA nt ops env o) = true → yes) ∧ (goesA (guardA nt ops env o) = false → no) := by
  unfold roOf at h
  unfold guardA
  cases hg : o.guard with
  | none =>
    rw [hg] at h
    exact ⟨trivial, fun _ => h, fun hn => by cases hn⟩
  | some jw =>
    obtain ⟨j, want⟩ := jw
    rw [hg] at h
    cases hd : (ops[j]?).bind (·.dst) with
    | none =>
      simp only [hd] at h ⊢
      exact absurd h.1 (by simp [ev, ofV, ofV1, AV.isGd])
    | some d =>
      simp only [hd] at h ⊢
      obtain ⟨h1, h2⟩ := h
      refine ⟨h1, fun hy => ?_, fun hn => ?_⟩
      · have hy : ((ev C nt env (.tmp d)).goes want) = true := hy
        rw [if_pos hy] at h2; exact h2
      · have hn : ((ev C nt env (.tmp d)).goes want) = false := hn
        rw [if_neg (by rw [hn]; decide)] at h2; exact h2
theorem wpr_sound {C : Cx} {nt : Nat} {ops : Array Oper} : ∀ (os : List Oper) (k : Nat) (K : Env → Sto → Prop) (env : Env) (σ : Sto), ops.toList.drop k = os → wpr C nt (os.map (roOf ops)) K env σ →
    ∃ env' σ', OpsS C nt ops (List.range' k os.length) env σ env' σ' ∧ K env' σ'
  | [], k, K, env, σ, _, h => ⟨env, σ, opsS_nil, h⟩
  | o :: os, k, K, env, σ, hd, h => by
    have ho : ops[k]? = some o := by
      have h1 : (ops.toList.drop k)[0]? = some o := by rw [hd]; rfl
      rw [List.getElem?_drop, Nat.add_zero, Array.getElem?_toList] at h1
      exact h1
    have hd2 : ops.toList.drop (k + 1) = os := by rw [← List.drop_drop, hd]; rfl
    simp only [List.map_cons, wpr] at h
    obtain ⟨hg, hy, hn⟩ := guard_ro h
    rw [List.length_cons, List.range'_succ]
    cases hgo : goesA (guardA nt ops env o) with
    | true =>
      have h := hy hgo
      split at h
      · obtain ⟨v, σ1, hs, hk⟩ := h
        obtain ⟨env', σ', h1, h2⟩ := wpr_sound os (k + 1) K _ _ hd2 hk
        exact ⟨env', σ', opsS_cons ho hg (fun _ => hs o rfl) (fun hn => by rw [hgo] at hn; cases hn) h1, h2⟩
      · obtain ⟨hc, hk⟩ := h
        obtain ⟨env', σ', h1, h2⟩ := wpr_sound os (k + 1) K _ _ hd2 hk
        exact ⟨env', σ', opsS_cons ho hg (fun _ => opStep_of_snd aop_sound hc (aop_noDefer hc)) (fun hn => by rw [hgo] at hn; cases hn) h1, h2⟩
    | false =>
      obtain ⟨env', σ', h1, h2⟩ := wpr_sound os (k + 1) K _ _ hd2 (hn hgo)
      exact ⟨env', σ', opsS_cons (v := .skp) (σ1 := σ) ho hg (fun hy => by rw [hgo] at hy; cases hy) (fun _ => ⟨rfl, rfl⟩) h1, h2⟩
def W (C : Cx) (ro : Option Nat) (nt : Nat) (c : Code) (Q : Exit → Env → Sto → Prop) (env : Env) (σ : Sto) : Prop := ∃ e env' σ', CodeS C ro nt c env σ e env' σ' ∧ Q e env' σ'
def andThen (C : Cx) (ro : Option Nat) (nt : Nat) (y : Code) (Q : Exit → Env → Sto → Prop) : Exit → Env → Sto → Prop
  | .normal => W C ro nt y Q
  | e => Q e
section
variable {C : Cx} {ro : Option Nat} {nt : Nat} {Q : Exit → Env → Sto → Prop} {env : Env} {σ : Sto}
theorem W.seq {x y : Code} (h : W C ro nt x (andThen C ro nt y Q) env σ) : W C ro nt (.seq x y) Q env σ := by
  obtain ⟨e, env1, σ1, h1, h2⟩ := h
  cases e with
  | normal =>
    obtain ⟨e2, env2, σ2, h3, h4⟩ := h2
    exact ⟨e2, env2, σ2, codeS_seq h1 h3, h4⟩
  | _ => exact ⟨_, env1, σ1, codeS_seq_exit h1 (by intro h; cases h), h2⟩
theorem W.region {id : Nat} {ops : Array Oper} (h : wpr C nt (ops.toList.map (roOf ops)) (fun env σ => Q .normal env σ) env σ) : W C ro nt (.region id ops false) Q env σ := by
  obtain ⟨env', σ', h1, h2⟩ := wpr_sound ops.toList 0 _ _ _ rfl h
  rw [Array.length_toList, ← List.range_eq_range'] at h1
  exact ⟨.normal, env', σ', codeS_region h1, h2⟩
theorem W.skip (h : Q .normal env σ) : W C ro nt .skip Q env σ := ⟨_, _, _, codeS_skip, h⟩
theorem W.label {l : Nat} (h : Q .normal env σ) : W C ro nt (.label l) Q env σ := ⟨_, _, _, codeS_label, h⟩
theorem W.exit {id : Nat} (h : Q (.exit id) env σ) : W C ro nt (.exit id) Q env σ := ⟨_, _, _, codeS_exit, h⟩
theorem W.ret (h : Q .ret env σ) : W C ro nt .ret Q env σ := ⟨_, _, _, codeS_ret, h⟩
theorem W.block {id : Nat} {c : Code} (h : W C ro nt c (fun e => Q (inBlk id e)) env σ) : W C ro nt (.block id c) Q env σ := by
  obtain ⟨e, env1, σ1, h1, h2⟩ := h
  exact ⟨_, _, _, codeS_block h1, h2⟩
theorem W.cond {c : Operand} {x y : Code} (b : Bool) (hc : ev C nt env c = .bool b) (ht : b = true → W C ro nt x Q env σ) (hf : b = false → W C ro nt y Q env σ) : W C ro nt (.cond c x y) Q env σ := by
  cases b with
  | true =>
    obtain ⟨e, env1, σ1, h1, h2⟩ := ht rfl
    exact ⟨e, env1, σ1, codeS_cond hc (by simpa using h1), h2⟩
  | false =>
    obtain ⟨e, env1, σ1, h1, h2⟩ := hf rfl
    exact ⟨e, env1, σ1, codeS_cond hc (by simpa using h1), h2⟩
theorem W.mono {c : Code} {Q' : Exit → Env → Sto → Prop} (h : W C ro nt c Q env σ) (hq : ∀ e env σ, Q e env σ → Q' e env σ) : W C ro nt c Q' env σ := by
  obtain ⟨e, env1, σ1, h1, h2⟩ := h
  exact ⟨e, env1, σ1, h1, hq _ _ _ h2⟩
theorem W.forget {c : Code} (env1 : Env) (hl : Env.le env env1) (h : W C ro nt c Q env1 σ) : W C ro nt c Q env σ := by
  obtain ⟨e, env2, σ1, h1, h2⟩ := h
  exact ⟨e, env2, σ1, codeS_pre hl h1, h2⟩
theorem W.loop {c : Code} (I : Env → Sto → Prop) (μ : Env → Sto → Nat) (h0 : I env σ)
    (round : ∀ env σ, I env σ → W C ro nt c (fun e env' σ' => (e = .normal ∧ I env' σ' ∧ μ env' σ' < μ env σ) ∨ (e ≠ .normal ∧ Q e env' σ')) env σ) : W C ro nt (.loop c) Q env σ := by
  have key : ∀ n env σ, μ env σ = n → I env σ → ∃ e env' σ', LoopS C ro nt c env σ e env' σ' ∧ Q e env' σ' := by
    intro n
    induction n using Nat.strongRecOn with
    | _ n ih =>
      intro env σ hn hI
      obtain ⟨e, env1, σ1, h1, h2 | h2⟩ := round env σ hI
      · obtain ⟨rfl, hI1, hlt⟩ := h2
        obtain ⟨e2, env2, σ2, h3, h4⟩ := ih (μ env1 σ1) (hn ▸ hlt) env1 σ1 rfl hI1
        exact ⟨e2, env2, σ2, .more h1 h3, h4⟩
      · exact ⟨e, env1, σ1, .last h1 h2.1, h2.2⟩
  obtain ⟨e, env', σ', h1, h2⟩ := key _ env σ rfl h0
  exact ⟨e, env', σ', codeS_loop h1, h2⟩
theorem W.loop_by {c : Code} {S : Type} (st : S → Env × Sto) (s0 : S) (I : S → Prop) (μ : S → Nat) (he : Env.le env (st s0).1) (hσ : σ.le (st s0).2) (h0 : I s0)
    (round : ∀ s, I s → W C ro nt c (fun e env' σ' => (e = .normal ∧ ∃ s', I s' ∧ μ s' < μ s ∧ Env.le env' (st s').1 ∧ σ'.le (st s').2) ∨ (e ≠ .normal ∧ Q e env' σ')) (st s).1 (st s).2) : W C ro nt (.loop c) Q env σ := by
  have key : ∀ n s, μ s = n → I s → ∃ e env' σ', LoopS C ro nt c (st s).1 (st s).2 e env' σ' ∧ Q e env' σ' := by
    intro n
    induction n using Nat.strongRecOn with
    | _ n ih =>
      intro s hn hI
      obtain ⟨e, env1, σ1, h1, h2 | h2⟩ := round s hI
      · obtain ⟨rfl, s', hI', hlt, hle, hsl⟩ := h2
        obtain ⟨e2, env2, σ2, h3, h4⟩ := ih (μ s') (hn ▸ hlt) s' rfl hI'
        exact ⟨e2, env2, σ2, .more (codeS_postS (codeS_post h1 hle) hsl) h3, h4⟩
      · exact ⟨e, env1, σ1, .last h1 h2.1, h2.2⟩
  obtain ⟨e, env', σ', h1, h2⟩ := key _ s0 rfl h0
  exact ⟨e, env', σ', codeS_pre he (codeS_preS hσ (codeS_loop h1)), h2⟩
end
def allP {α : Type} (p : α → Prop) : List α → Prop
  | [] => True
  | x :: xs => p x ∧ allP p xs
theorem allP_iff {α : Type} {p : α → Prop} : ∀ {l : List α}, allP p l → ∀ x ∈ l, p x
  | y :: l, h, x, hx => by
    rcases List.mem_cons.1 hx with rfl | hx
    · exact h.1
    · exact allP_iff h.2 x hx
theorem call_of {C : Cx} {f : FuncId} {fn : Func} {c : Code} {args : List AV} {σ : Sto} {R : AV → Sto → Prop} (hb : Body C.P f fn c) (hl : args.length ≤ fn.ntmps)
    (h : W C none fn.ntmps c (fun e env' σ' => (e = .normal ∨ e = .ret) ∧ allP (resOK C fn.ntmps env' σ') fn.results.toList ∧ R (oneOr (fn.results.toList.map (resA C fn.ntmps env' σ'))) σ') (env0 args) σ) :
    ∃ r σ', CallS C f args σ r σ' ∧ R r σ' := by
  obtain ⟨e, env', σ', h1, h2, h3, h4⟩ := h
  exact ⟨_, σ', callS_of_body hb hl h1 h2 (allP_iff h3), h4⟩
structure PCall (C : Cx) (f : FuncId) (args : List AV) (r : AV) : Prop where
  here : ∃ fn c, Body C.P f fn c
  cl : ∀ x ∈ args, Closed x
  clr : Closed r
  call : ∃ σ', CallS C f args .none r σ'
def Gh.only (G : Gh) : Gh := ⟨fun _ => none, G.I, fun _ => none⟩
theorem Inv.only {gl : Nat → List AV} {w0 w : World} {G : Gh} {σ : Sto} (h : Inv gl w0 G σ w) (hgl : ∀ g c, c ∈ gl g → Closed c) : Inv gl w0 G.only .none w where
  below := h.below
  imm := h.imm
  gl := fun g k c hc => (h.gl g k c hc).imp fun v hv => ⟨hv.1, hv.2.closed (fun _ _ _ x => x) (hgl g c (mem_of_get hc))⟩
  live := fun id o h => by cases h
  obj := fun id o B h => by cases h
  fresh := fun _ _ => rfl
  inj := fun id id' o o' B B' h => by cases h
  has := fun id o h => by cases h
  freshT := fun _ _ => rfl
  tok := ⟨fun id es n h => (by cases h), fun id id' b h => (by obtain ⟨_, _, _, _, h, _⟩ := h; cases h), fun id b h => (by obtain ⟨_, _, _, _, h, _⟩ := h; cases h)⟩
theorem PCall.callS {C : Cx} {f : FuncId} {args : List AV} {r : AV} (h : PCall C f args r) (σ : Sto) : CallS C f args σ r σ := by
  intro w0 G w V hi hV hrep
  obtain ⟨σ', hc⟩ := h.call
  refine (hc w0 G.only w V (hi.only C.glc) hV fun i x v h1 h2 => (hrep i x v h1 h2).closed (fun _ _ _ x => x) (h.cl x (mem_of_get h1))).mono ?_
  rintro e w' ⟨G', v, rfl, h1, h2, h3⟩
  have hkeep : ∀ b, b < w.heap.size → w'.heap[b]? = w.heap[b]? ∧ (∀ o, G'.I b o = G.I b o) := fun b hb => by
    obtain ⟨a1, a2, _⟩ := h3.keep b hb (by rintro (⟨id, o, B, h, _⟩ | ⟨id, _, _, _, _, h, _⟩) <;> cases h)
    exact ⟨a1, a2⟩
  have hle : G.le ⟨G.j, G'.I, G.T⟩ := ⟨fun _ _ x => x, fun b o v hv => h3.le.I b o v hv, Gh.same_T rfl⟩
  have hown : ∀ {b : Nat}, Own ⟨G.j, G'.I, G.T⟩ σ b → Own G σ b := fun h => h
  refine ⟨⟨G.j, G'.I, G.T⟩, v, rfl, h1.closed (fun _ _ _ x => x) h.clr, ?_, ?_⟩
  · exact {
      below := h2.below
      imm := h2.imm
      gl := fun g k c hc => (hi.gl g k c hc).imp fun v hv => ⟨hle.I _ _ _ hv.1, hv.2.mono hle⟩
      live := hi.live
      obj := fun id o B h1 h2 => by
        have hlt := (hi.obj id o B h1 h2).2.lt
        exact ⟨(hi.obj id o B h1 h2).1, (hi.obj id o B h1 h2).2.keep hle (hkeep _ hlt).1 (hkeep _ hlt).2⟩
      fresh := hi.fresh
      inj := hi.inj
      has := hi.has
      freshT := hi.freshT
      tok := hi.tok.step rfl (fun _ _ _ x => x) (fun id b hb => hkeep b (hi.tok.lt hb)) hi.tok.oj }
  · exact {
      le := hle
      size := h3.size
      keep := fun b hb ho => ⟨(hkeep b hb).1, (hkeep b hb).2, fun h => ho (hown h)⟩
      next := Nat.le_refl _ }
theorem pcall_of {C : Cx} {f : FuncId} {fn : Func} {c : Code} {args : List AV} {r : AV} (hb : Body C.P f fn c) (hl : args.length ≤ fn.ntmps) (hcl : ∀ x ∈ args, Closed x) (hclr : Closed r)
    (h : W C none fn.ntmps c (fun e env' σ' => (e = .normal ∨ e = .ret) ∧ allP (resOK C fn.ntmps env' σ') fn.results.toList ∧ oneOr (fn.results.toList.map (resA C fn.ntmps env' σ')) = r) (env0 args) .none) : PCall C f args r := by
  obtain ⟨r', σ', h1, rfl⟩ := call_of (R := fun x _ => x = r) hb hl h
  exact ⟨⟨fn, c, hb⟩, hcl, hclr, σ', h1⟩
theorem callR_pure {C : Cx} {ρ : Operand → AV} {σ : Sto} {cl : Call} {K : AV → Sto → Prop} {f : Operand} {g : FuncId} {args : List AV} {r : AV}
    (h : PCall C g args r) (hc : cl.callee = .value f) (hf : ρ f = .fn g []) (ha : cl.args.toList.map ρ = args) (hk : K r σ) : callR C ρ σ (.call cl) K := by
  obtain ⟨fn, c, hb⟩ := h.here
  refine ⟨r, σ, fun o ho => opStep_call (f := f) (as := cl.args) (ts := cl.argTypes) (by rw [ho, ← hc]) hf hb ?_, hk⟩
  rw [ha, List.append_nil]
  exact h.callS σ
theorem callK_pure {C : Cx} {nt : Nat} {d : Option Nat} {cl : Call} {rs : List RO} {K : Env → Sto → Prop} {env : Env} {σ : Sto} {f : Operand} {g : FuncId} {args : List AV} {r : AV}
    (h : PCall C g args r) (hc : cl.callee = .value f) (hf : ev C nt env f = .fn g []) (ha : cl.args.toList.map (ev C nt env) = args) (hk : wpr C nt rs K (putA env d r) σ) : callK C nt d cl rs K env σ :=
  callR_pure h hc hf ha hk
theorem callR_gen {C : Cx} {ρ : Operand → AV} {σ σ1 : Sto} {cl : Call} {K : AV → Sto → Prop} {f : Operand} {g : FuncId} {caps args : List AV} {r : AV} {fn : Func} {c : Code} (hb : Body C.P g fn c)
    (h : CallS C g (args ++ caps) σ r σ1) (hc : cl.callee = .value f) (hf : ρ f = .fn g caps) (ha : cl.args.toList.map ρ = args) (hk : K r σ1) : callR C ρ σ (.call cl) K := by
  refine ⟨r, σ1, fun o ho => opStep_call (f := f) (as := cl.args) (ts := cl.argTypes) (by rw [ho, ← hc]) hf hb ?_, hk⟩
  rw [ha]; exact h
theorem callK_gen {C : Cx} {nt : Nat} {d : Option Nat} {cl : Call} {rs : List RO} {K : Env → Sto → Prop} {env : Env} {σ σ1 : Sto} {f : Operand} {g : FuncId} {caps args : List AV} {r : AV} {fn : Func} {c : Code} (hb : Body C.P g fn c)
    (h : CallS C g (args ++ caps) σ r σ1) (hc : cl.callee = .value f) (hf : ev C nt env f = .fn g caps) (ha : cl.args.toList.map (ev C nt env) = args) (hk : wpr C nt rs K (putA env d r) σ1) : callK C nt d cl rs K env σ :=
  callR_gen hb h hc hf ha hk
inductive K where
  | reg (ros : List RO)
  | seq (a b : K)
  | cond (c : Operand) (x y : K)
  | block (id : Nat) (k : K)
  | loop (k : K)
  | exit (id : Nat)
  | ret
  | skip
  | label (l : Nat)
  | oth (c : Code)
def toK : Code → K
  | .region id ops d => match d with | false => .reg (ops.toList.map (roOf ops)) | true => .oth (.region id ops true)
  | .seq a b => .seq (toK a) (toK b)
  | .cond c x y => .cond c (toK x) (toK y)
  | .block id c => .block id (toK c)
  | .loop c => .loop (toK c)
  | .exit id => .exit id
  | .ret => .ret
  | .skip => .skip
  | .label l => .label l
  | c => .oth c
def WK (C : Cx) (ro : Option Nat) (nt : Nat) (k : K) (Q : Exit → Env → Sto → Prop) (env : Env) (σ : Sto) : Prop := ∀ c, toK c = k → W C ro nt c Q env σ
def andK (C : Cx) (ro : Option Nat) (nt : Nat) (y : K) (Q : Exit → Env → Sto → Prop) : Exit → Env → Sto → Prop
  | .normal => WK C ro nt y Q
  | e => Q e
section
variable {C : Cx} {ro : Option Nat} {nt : Nat} {Q : Exit → Env → Sto → Prop} {env : Env} {σ : Sto}
theorem W.of {c : Code} (h : WK C ro nt (toK c) Q env σ) : W C ro nt c Q env σ := h c rfl
theorem WK.mono {k : K} {Q' : Exit → Env → Sto → Prop} (h : WK C ro nt k Q env σ) (hq : ∀ e env σ, Q e env σ → Q' e env σ) : WK C ro nt k Q' env σ := fun c hc => (h c hc).mono hq
theorem WK.seq {x y : K} (h : WK C ro nt x (andK C ro nt y Q) env σ) : WK C ro nt (.seq x y) Q env σ := by
  intro c hc
  cases c with
  | seq a b =>
    simp only [toK, K.seq.injEq] at hc
    refine W.seq ((h a hc.1).mono fun e env σ hq => ?_)
    cases e with
    | normal => exact hq b hc.2
    | _ => exact hq
  | region id ops d => cases d <;> cases hc
  | _ => cases hc
theorem WK.reg {ros : List RO} (h : wpr C nt ros (fun env σ => Q .normal env σ) env σ) : WK C ro nt (.reg ros) Q env σ := by
  intro c hc
  cases c with
  | region id ops d =>
    cases d with
    | false =>
      simp only [toK, K.reg.injEq] at hc
      subst hc
      exact W.region h
    | true => cases hc
  | _ => cases hc
theorem WK.cond {c : Operand} {x y : K} (b : Bool) (hc : ev C nt env c = .bool b) (ht : b = true → WK C ro nt x Q env σ) (hf : b = false → WK C ro nt y Q env σ) : WK C ro nt (.cond c x y) Q env σ := by
  intro d hd
  cases d with
  | cond c' a b' =>
    simp only [toK, K.cond.injEq] at hd
    obtain ⟨rfl, h1, h2⟩ := hd
    exact W.cond b hc (fun h => ht h a h1) (fun h => hf h b' h2)
  | region id ops d => cases d <;> cases hd
  | _ => cases hd
theorem WK.block {id : Nat} {k : K} (h : WK C ro nt k (fun e => Q (inBlk id e)) env σ) : WK C ro nt (.block id k) Q env σ := by
  intro d hd
  cases d with
  | block id' a =>
    simp only [toK, K.block.injEq] at hd
    obtain ⟨rfl, h1⟩ := hd
    exact W.block (h a h1)
  | region id ops d => cases d <;> cases hd
  | _ => cases hd
theorem WK.exit {id : Nat} (h : Q (.exit id) env σ) : WK C ro nt (.exit id) Q env σ := by
  intro d hd
  cases d with
  | exit id' => simp only [toK, K.exit.injEq] at hd; subst hd; exact W.exit h
  | region id ops d => cases d <;> cases hd
  | _ => cases hd
theorem WK.ret (h : Q .ret env σ) : WK C ro nt .ret Q env σ := by
  intro d hd
  cases d with
  | ret => exact W.ret h
  | region id ops d => cases d <;> cases hd
  | _ => cases hd
theorem WK.skip (h : Q .normal env σ) : WK C ro nt .skip Q env σ := by
  intro d hd
  cases d with
  | skip => exact W.skip h
  | region id ops d => cases d <;> cases hd
  | _ => cases hd
theorem WK.label {l : Nat} (h : Q .normal env σ) : WK C ro nt (.label l) Q env σ := by
  intro d hd
  cases d with
  | label l' => exact W.label h
  | region id ops d => cases d <;> cases hd
  | _ => cases hd
theorem WK.drop {k : K} (σ1 : Sto) (hl : σ.le σ1) (h : WK C ro nt k Q env σ1) : WK C ro nt k Q env σ := fun c hc => by
  obtain ⟨e, env2, σ2, h1, h2⟩ := h c hc
  exact ⟨e, env2, σ2, codeS_preS hl h1, h2⟩
theorem WK.forget {k : K} (env1 : Env) (hl : Env.le env env1) (h : WK C ro nt k Q env1 σ) : WK C ro nt k Q env σ := fun c hc => (h c hc).forget env1 hl
theorem WK.loop {k : K} {S : Type} (st : S → Env × Sto) (s0 : S) (I : S → Prop) (μ : S → Nat) (he : Env.le env (st s0).1) (hσ : σ.le (st s0).2) (h0 : I s0)
    (round : ∀ s, I s → WK C ro nt k (fun e env' σ' => (e = .normal ∧ ∃ s', I s' ∧ μ s' < μ s ∧ Env.le env' (st s').1 ∧ σ'.le (st s').2) ∨ (e ≠ .normal ∧ Q e env' σ')) (st s).1 (st s).2) : WK C ro nt (.loop k) Q env σ := by
  intro d hd
  cases d with
  | loop a =>
    simp only [toK, K.loop.injEq] at hd
    exact W.loop_by st s0 I μ he hσ h0 fun s hs => round s hs a hd
  | region id ops d => cases d <;> cases hd
  | _ => cases hd
end
theorem andK_normal {C : Cx} {ro : Option Nat} {nt : Nat} {y : K} {Q : Exit → Env → Sto → Prop} {env : Env} {σ : Sto} : andK C ro nt y Q .normal env σ = WK C ro nt y Q env σ := (rfl)
theorem andK_exit {C : Cx} {ro : Option Nat} {nt : Nat} {y : K} {Q : Exit → Env → Sto → Prop} {env : Env} {σ : Sto} {id : Nat} : andK C ro nt y Q (.exit id) env σ = Q (.exit id) env σ := (rfl)
theorem andK_ret {C : Cx} {ro : Option Nat} {nt : Nat} {y : K} {Q : Exit → Env → Sto → Prop} {env : Env} {σ : Sto} : andK C ro nt y Q .ret env σ = Q .ret env σ := (rfl)
theorem inBlk_normal {id : Nat} : inBlk id .normal = .normal := (rfl)
theorem inBlk_ret {id : Nat} : inBlk id .ret = .ret := (rfl)
theorem inBlk_exit {id id' : Nat} : inBlk id (.exit id') = if id' = id then .normal else .exit id' := (rfl)
theorem pick_and (a b : Bool) : (if a = true then AV.bool b else AV.bool false) = .bool (a && b) := by cases a <;> rfl
theorem pick_or (a b : Bool) : (if a = true then AV.bool true else AV.bool b) = .bool (a || b) := by cases a <;> rfl
theorem upd_eq (env : Env) (d : Nat) (v : AV) (t : Nat) : upd env d v t = if t = d then v else env t := (rfl)
def okCell (p : AV) (i : Option TyI) (σ : Sto) : Prop :=
  match p, i with
  | .ptr id k, some i => (match σ.get id with | some (.box cs) => rdOK i cs k | _ => False)
  | _, _ => False
def rdCell (p : AV) (i : Option TyI) (σ : Sto) : AV :=
  match p, i with
  | .ptr id k, some i => rdC i (boxCells σ id) k
  | _, _ => .undef
theorem resA_tmp {C : Cx} {nt : Nat} {env : Env} {σ : Sto} {t : Nat} : resA C nt env σ (.tmp t) = ev C nt env (.tmp t) := (rfl)
theorem resA_cell {C : Cx} {nt : Nat} {env : Env} {σ : Sto} {a t : Nat} : resA C nt env σ (.cell a t) = rdCell (ev C nt env (.tmp a)) (C.ty t) σ := (rfl)
theorem okCell_ptr {id k : Nat} {i : TyI} {σ : Sto} : okCell (.ptr id k) (some i) σ = (match σ.get id with | some (.box cs) => rdOK i cs k | _ => False) := (rfl)
theorem rdCell_ptr {id k : Nat} {i : TyI} {σ : Sto} : rdCell (.ptr id k) (some i) σ = rdC i (boxCells σ id) k := (rfl)
theorem resOK_tmp {C : Cx} {nt : Nat} {env : Env} {σ : Sto} {t : Nat} : resOK C nt env σ (.tmp t) = True := (rfl)
theorem resOK_cell {C : Cx} {nt : Nat} {env : Env} {σ : Sto} {a t : Nat} : resOK C nt env σ (.cell a t) = okCell (ev C nt env (.tmp a)) (C.ty t) σ := by
  simp only [resOK, okCell]
  refine propext ⟨?_, fun h => ?_⟩
  · rintro ⟨id, k, i, cs, h1, h2, h3, h4⟩
    simp only [h1, h2, h3, h4]
  · split at h
    · rename_i id k i h1 h2
      split at h
      · rename_i cs h3
        exact ⟨id, k, i, cs, h1, h2, h3, h⟩
      · exact h.elim
    · exact h.elim
def appK (C : Cx) (nt : Nat) (d : Option Nat) (as : Array Operand) (ts : Array TypeId) (rs : List RO) (K : Env → Sto → Prop) (env : Env) (σ : Sto) : Prop := wpr C nt (⟨d, .call ⟨.builtin .append, as, ts⟩, none⟩ :: rs) K env σ
def runR (C : Cx) (nt : Nat) (d : Option Nat) (r : AR) (rs : List RO) (K : Env → Sto → Prop) (env : Env) : Prop := r.c ∧ wpr C nt rs K (putA env d r.v) r.s
theorem runR_eq {C : Cx} {nt : Nat} {d : Option Nat} {c : Prop} {v : AV} {s : Sto} {rs : List RO} {K : Env → Sto → Prop} {env : Env} : runR C nt d ⟨c, v, s⟩ rs K env = (c ∧ wpr C nt rs K (putA env d v) s) := (rfl)
section
variable {C : Cx} {nt : Nat} {d : Option Nat} {rs : List RO} {K : Env → Sto → Prop} {env : Env} {σ : Sto}
theorem wpr_omove (x : Operand) : wpr C nt (⟨d, .move x, none⟩ :: rs) K env σ = runR C nt d (⟨True, (ev C nt env) x, σ⟩) rs K env := wpr_op rfl
theorem wpr_oassign (x : Operand) : wpr C nt (⟨d, .assign x, none⟩ :: rs) K env σ = runR C nt d (⟨True, (ev C nt env) x, σ⟩) rs K env := wpr_op rfl
theorem wpr_opick (c x y : Operand) : wpr C nt (⟨d, .pick c x y, none⟩ :: rs) K env σ = runR C nt d (⟨(ev C nt env c).isBool = true, if (ev C nt env c).theB = true then (ev C nt env) x else (ev C nt env) y, σ⟩) rs K env := wpr_op rfl
theorem wpr_obox (t : TypeId) (x : Operand) : wpr C nt (⟨d, .box t x, none⟩ :: rs) K env σ = runR C nt d (⟨(ev C nt env x).def = true, .ptr σ.next 0, σ.add (.box (ev C nt env x).cells)⟩) rs K env := wpr_op rfl
theorem wpr_oalloc (t : TypeId) : wpr C nt (⟨d, .alloc t, none⟩ :: rs) K env σ = runR C nt d (allocA σ (C.ty t)) rs K env := wpr_op rfl
theorem wpr_oload (t : TypeId) (x : Operand) : wpr C nt (⟨d, .load t x, none⟩ :: rs) K env σ = runR C nt d (match C.ty t with | some i => loadA i σ (ev C nt env x) | none => bad σ) rs K env := wpr_op rfl
theorem wpr_ostore (t : TypeId) (x y : Operand) : wpr C nt (⟨d, .store t x y, none⟩ :: rs) K env σ = runR C nt d (match C.ty t with | some i => storeA i σ (ev C nt env x) (ev C nt env y) | none => bad σ) rs K env := wpr_op rfl
theorem wpr_ofieldAddr (t : TypeId) (x : Operand) (f : Nat) : wpr C nt (⟨d, .fieldAddr t x f, none⟩ :: rs) K env σ = runR C nt d (faA σ (fldE C t f) (ev C nt env x)) rs K env := wpr_op rfl
theorem wpr_ofield (t : TypeId) (x : Operand) (f : Nat) : wpr C nt (⟨d, .field t x f, none⟩ :: rs) K env σ = runR C nt d (fldA σ (fldE C t f) (ev C nt env x)) rs K env := wpr_op rfl
theorem wpr_oindexAddr (t : TypeId) (x ix : Operand) : wpr C nt (⟨d, .indexAddr t x ix, none⟩ :: rs) K env σ = runR C nt d (idxA C σ t (ev C nt env x) (ev C nt env ix)) rs K env := wpr_op rfl
theorem wpr_oindex (t : TypeId) (x ix : Operand) : wpr C nt (⟨d, .index t x ix, none⟩ :: rs) K env σ = runR C nt d (ixvA C σ t (ev C nt env x) (ev C nt env ix)) rs K env := wpr_op rfl
theorem wpr_oextract (x : Operand) (k : Nat) : wpr C nt (⟨d, .extract x k, none⟩ :: rs) K env σ = runR C nt d (extA σ (ev C nt env x) k) rs K env := wpr_op rfl
theorem wpr_obinOp (op : BinOp) (t : TypeId) (x y : Operand) (t' : TypeId) : wpr C nt (⟨d, .binOp op t x y t', none⟩ :: rs) K env σ = runR C nt d (binA C σ op t (ev C nt env x) (ev C nt env y)) rs K env := wpr_op rfl
theorem wpr_ounOp (op : UnOp) (t : TypeId) (x : Operand) : wpr C nt (⟨d, .unOp op t x, none⟩ :: rs) K env σ = runR C nt d (unA σ op (ev C nt env x)) rs K env := wpr_op rfl
theorem wpr_onilCheck (x : Operand) : wpr C nt (⟨d, .nilCheck x, none⟩ :: rs) K env σ = runR C nt d (⟨(ev C nt env x).isAddr = true ∨ (ev C nt env x).isFn = true, (ev C nt env) x, σ⟩) rs K env := wpr_op rfl
theorem wpr_omakeFunc (f : Fn) (first cap : Array Operand) : wpr C nt (⟨d, .makeFunc f first cap, none⟩ :: rs) K env σ = runR C nt d (mkfA (ev C nt env) σ f first.toList cap.toList) rs K env := wpr_op rfl
theorem wpr_oconvert (s' d' : TypeId) (x : Operand) : wpr C nt (⟨d, .convert s' d' x, none⟩ :: rs) K env σ = runR C nt d (cnvA C σ s' d' (ev C nt env x)) rs K env := wpr_op rfl
theorem wpr_otypeAssert (x : Operand) (t' t : TypeId) (ok : Bool) : wpr C nt (⟨d, .typeAssert x t' t ok, none⟩ :: rs) K env σ = runR C nt d (tasA C σ t ok (ev C nt env x)) rs K env := wpr_op rfl
theorem wpr_omakeInterface (t : TypeId) (x : Operand) : wpr C nt (⟨d, .makeInterface t x, none⟩ :: rs) K env σ = runR C nt d (ifaceA C σ t (ev C nt env x)) rs K env := wpr_op rfl
theorem wpr_obuild (t : TypeId) (ps : Array (Nat × Operand)) : wpr C nt (⟨d, .build t ps, none⟩ :: rs) K env σ = runR C nt d (bldA σ (bldE C t) (ps.toList.map fun p => (p.1, (ev C nt env) p.2))) rs K env := wpr_op rfl
theorem wpr_obuildSlice (t : TypeId) (n : Nat) (ps : Array (Nat × Operand)) : wpr C nt (⟨d, .buildSlice t n ps, none⟩ :: rs) K env σ = runR C nt d (bslA σ (slE C t) n (ps.toList.map fun p => (p.1, (ev C nt env) p.2))) rs K env := wpr_op rfl
theorem wpr_oslice (t : TypeId) (x : Operand) (lo hi : Option Operand) : wpr C nt (⟨d, .slice t x lo hi none, none⟩ :: rs) K env σ = runR C nt d (slcA C (ev C nt env) σ t (ev C nt env x) lo hi) rs K env := wpr_op rfl
theorem wpr_omakeSlice (t : TypeId) (x y : Operand) : wpr C nt (⟨d, .makeSlice t x y, none⟩ :: rs) K env σ = runR C nt d (mkslA C σ t (ev C nt env x) (ev C nt env y)) rs K env := wpr_op rfl
theorem wpr_omakeMap (t : TypeId) (r : Option Operand) : wpr C nt (⟨d, .makeMap t r, none⟩ :: rs) K env σ = runR C nt d (mkmA σ r) rs K env := wpr_op rfl
theorem wpr_orange (t : TypeId) (x : Operand) : wpr C nt (⟨d, .range t x, none⟩ :: rs) K env σ = runR C nt d (rngA C σ t (ev C nt env x)) rs K env := wpr_op rfl
theorem wpr_onext (x : Operand) (b : Bool) : wpr C nt (⟨d, .next x b, none⟩ :: rs) K env σ = runR C nt d (nxtA σ (ev C nt env x) b) rs K env := wpr_op rfl
theorem wpr_olookup (t : TypeId) (x k : Operand) (ok : Bool) : wpr C nt (⟨d, .lookup t x k ok, none⟩ :: rs) K env σ = runR C nt d (lkpA C σ t (ev C nt env x) (ev C nt env k) ok) rs K env := wpr_op rfl
theorem wpr_omapUpdate (t : TypeId) (x k y : Operand) : wpr C nt (⟨d, .mapUpdate t x k y, none⟩ :: rs) K env σ = runR C nt d (mupA C σ t (ev C nt env x) (ev C nt env k) (ev C nt env y)) rs K env := wpr_op rfl
theorem wpr_oinsert (t : TypeId) (x k y : Operand) : wpr C nt (⟨d, .insert t x k y, none⟩ :: rs) K env σ = runR C nt d (mupA C σ t (ev C nt env x) (ev C nt env k) (ev C nt env y)) rs K env := wpr_op rfl
theorem wpr_olen (as : Array Operand) (ts : Array TypeId) : wpr C nt (⟨d, .call ⟨.builtin .len, as, ts⟩, none⟩ :: rs) K env σ = runR C nt d (bltA C (ev C nt env) σ .len as.toList ts.toList) rs K env := wpr_op rfl
theorem wpr_omax (as : Array Operand) (ts : Array TypeId) : wpr C nt (⟨d, .call ⟨.builtin .max, as, ts⟩, none⟩ :: rs) K env σ = runR C nt d (bltA C (ev C nt env) σ .max as.toList ts.toList) rs K env := wpr_op rfl
theorem wpr_omin (as : Array Operand) (ts : Array TypeId) : wpr C nt (⟨d, .call ⟨.builtin .min, as, ts⟩, none⟩ :: rs) K env σ = runR C nt d (bltA C (ev C nt env) σ .min as.toList ts.toList) rs K env := wpr_op rfl
theorem wpr_oapp (as : Array Operand) (ts : Array TypeId) : wpr C nt (⟨d, .call ⟨.builtin .append, as, ts⟩, none⟩ :: rs) K env σ = appK C nt d as ts rs K env σ := (rfl)
end
theorem Sto.get_none (i : Nat) : Sto.none.get i = Option.none := (rfl)
theorem Sto.next_none : Sto.none.next = 0 := (rfl)
theorem Sto.get_add (σ : Sto) (o : AObj) (i : Nat) : (σ.add o).get i = if i = σ.next then some o else σ.get i := (rfl)
theorem Sto.next_add (σ : Sto) (o : AObj) : (σ.add o).next = σ.next + 1 := (rfl)
theorem Sto.get_set (σ : Sto) (id : Nat) (o : AObj) (i : Nat) : (σ.set id o).get i = if i = id then some o else σ.get i := (rfl)
theorem Sto.next_set (σ : Sto) (id : Nat) (o : AObj) : (σ.set id o).next = σ.next := (rfl)
theorem Sto.get_del (σ : Sto) (id : Nat) (i : Nat) : (σ.del id).get i = if i = id then Option.none else σ.get i := (rfl)
theorem Sto.next_del (σ : Sto) (id : Nat) : (σ.del id).next = σ.next := (rfl)
theorem Sto.set_set (σ : Sto) (id : Nat) (o o' : AObj) : (σ.set id o).set id o' = σ.set id o' := by
  simp only [Sto.set, Sto.mk.injEq, and_true]; funext i; split <;> rfl
theorem Sto.set_add (σ : Sto) (o o' : AObj) : (σ.add o).set σ.next o' = σ.add o' := by
  simp only [Sto.set, Sto.add, Sto.mk.injEq, and_true]; funext i; split <;> rfl
theorem ofV_bool (b : Bool) : ofV (.bool b) = .bool b := rfl
theorem ofV1_bool (b : Bool) : ofV1 (.bool b) = .bool b := rfl
theorem ofV_int (k : IntKind) (n : Int) : ofV (.int k n) = .int k n := rfl
theorem ofV1_int (k : IntKind) (n : Int) : ofV1 (.int k n) = .int k n := rfl
theorem ofV_str (s : ByteArray) : ofV (.string s) = .str s := rfl
theorem ofV1_str (s : ByteArray) : ofV1 (.string s) = .str s := rfl
theorem ofV_sl  : ofV (.slice none 0 0) = .list true [] := rfl
theorem ofV1_sl  : ofV1 (.slice none 0 0) = .list true [] := rfl
theorem ofV_ptr  : ofV (.pointer none) = .nilp := rfl
theorem ofV1_ptr  : ofV1 (.pointer none) = .nilp := rfl
theorem ofV_map  : ofV (.map none) = .nilm := rfl
theorem ofV1_map  : ofV1 (.map none) = .nilm := rfl
theorem ofV_if  : ofV (.nilIface) = .nili := rfl
theorem ofV1_if  : ofV1 (.nilIface) = .nili := rfl
theorem ofV_fn  : ofV (.nilFunc) = .nilf := rfl
theorem ofV1_fn  : ofV1 (.nilFunc) = .nilf := rfl
theorem shp_bool (b : Bool) : (AV.bool b).shp = .bool false := (rfl)
theorem shp_int (k : IntKind) (n : Int) : (AV.int k n).shp = .int k 0 := (rfl)
theorem shp_str (s : ByteArray) : (AV.str s).shp = .str ByteArray.empty := (rfl)
theorem shp_agg (cs : List AV) : (AV.agg cs).shp = .agg (cs.map AV.shp1) := (rfl)
theorem pvs_bool (b : Bool) : (AV.bool b).pv.isSome = true := (rfl)
theorem pvs_int (k : IntKind) (n : Int) : (AV.int k n).pv.isSome = true := (rfl)
theorem pvs_str (s : ByteArray) : (AV.str s).pv.isSome = true := (rfl)
def isPl1 : AV → Bool
  | .bool _ | .int _ _ | .str _ => true
  | _ => false
theorem pv_isPl1 {a : AV} (h : isPl1 a = true) : a.pv1.isSome = true := by cases a <;> first | rfl | cases h
theorem pvL_isPl : ∀ {cs : List AV}, cs.all isPl1 = true → (AV.pvL cs).isSome = true
  | [], _ => rfl
  | a :: l, h => by
    simp only [List.all_cons, Bool.and_eq_true] at h
    obtain ⟨v, hv⟩ := Option.isSome_iff_exists.1 (pv_isPl1 h.1)
    obtain ⟨vs, hvs⟩ := Option.isSome_iff_exists.1 (pvL_isPl h.2)
    simp [AV.pvL, hv, hvs]
theorem pvs_agg {cs : List AV} (h : cs.all isPl1 = true) : (AV.agg cs).pv.isSome = true := by
  simp only [AV.pv, Option.isSome_map]; exact pvL_isPl h
theorem keyOK_int' {C : Cx} {t : TypeId} {k : IntKind} (h : intT C t = some k) : KeyOK C t (.int k 0) = True := by
  obtain ⟨ti, h1, h2⟩ := intT_some h
  exact eq_true (keyOK_int h1 h2)
theorem keyOK_bool' {C : Cx} {t : TypeId} (h : isBoolT C t = true) : KeyOK C t (.bool false) = True := by
  obtain ⟨ti, h1, h2⟩ := isBoolT_some h
  exact eq_true (keyOK_bool h1 h2)
theorem keyOK_str' {C : Cx} {t : TypeId} (h : isStrT C t = true) : KeyOK C t (.str ByteArray.empty) = True := by
  obtain ⟨ti, h1, h2⟩ := isStrT_some h
  exact eq_true (keyOK_str h1 h2)
theorem peq_int {k q : IntKind} {n m : Int} : (AV.int k n).peq (.int q m) = (n == m) := (rfl)
theorem peq_str {n m : ByteArray} : (AV.str n).peq (.str m) = (n == m) := (rfl)
theorem peq_bool {n m : Bool} : (AV.bool n).peq (.bool m) = (n == m) := (rfl)
theorem peq_agg {n m : List AV} : (AV.agg n).peq (.agg m) = peqL n m := (rfl)
theorem allE_nil {s : AV} : (∀ e ∈ ([] : List (AV × AV)), e.1.shp = s) = True := eq_true fun e h => by cases h
theorem allE_cons {s : AV} {a : AV × AV} {es : List (AV × AV)} : (∀ e ∈ a :: es, e.1.shp = s) = (a.1.shp = s ∧ ∀ e ∈ es, e.1.shp = s) := by simp only [List.mem_cons, forall_eq_or_imp]
attribute [go_sem] wpr_orange wpr_onext rngA nxtA nxtV wpr_omakeMap wpr_olookup wpr_omapUpdate wpr_oinsert lkpA mupA mkmA lookA shp_bool shp_int shp_str shp_agg pvs_bool pvs_int pvs_str pvs_agg isPl1 keyOK_int' keyOK_bool' keyOK_str' peq_int peq_str peq_bool peq_agg peq1 peqL AV.shp1 allE_nil allE_cons
theorem ofV_agg (cs : Array Value) : ofV (.agg cs) = .agg (cs.toList.map ofV1) := rfl
theorem c_def_undef  : AV.undef.def = false := (rfl)
theorem c_cells_undef  : AV.undef.cells = [AV.undef] := (rfl)
theorem c_one_undef  : AV.undef.one = false := (rfl)
theorem c_def_bool (b : Bool) : (AV.bool b).def = true := (rfl)
theorem c_cells_bool (b : Bool) : (AV.bool b).cells = [(AV.bool b)] := (rfl)
theorem c_one_bool (b : Bool) : (AV.bool b).one = true := (rfl)
theorem c_def_int (k : IntKind) (n : Int) : (AV.int k n).def = true := (rfl)
theorem c_cells_int (k : IntKind) (n : Int) : (AV.int k n).cells = [(AV.int k n)] := (rfl)
theorem c_one_int (k : IntKind) (n : Int) : (AV.int k n).one = true := (rfl)
theorem c_def_str (s : ByteArray) : (AV.str s).def = true := (rfl)
theorem c_cells_str (s : ByteArray) : (AV.str s).cells = [(AV.str s)] := (rfl)
theorem c_one_str (s : ByteArray) : (AV.str s).one = true := (rfl)
theorem c_def_list (f : Bool) (xs : List AV) : (AV.list f xs).def = true := (rfl)
theorem c_cells_list (f : Bool) (xs : List AV) : (AV.list f xs).cells = [(AV.list f xs)] := (rfl)
theorem c_one_list (f : Bool) (xs : List AV) : (AV.list f xs).one = true := (rfl)
theorem c_def_own (i : Nat) (xs : List AV) : (AV.own i xs).def = true := (rfl)
theorem c_cells_own (i : Nat) (xs : List AV) : (AV.own i xs).cells = [(AV.own i xs)] := (rfl)
theorem c_one_own (i : Nat) (xs : List AV) : (AV.own i xs).one = true := (rfl)
theorem c_def_row (i o l : Nat) : (AV.row i o l).def = true := (rfl)
theorem c_cells_row (i o l : Nat) : (AV.row i o l).cells = [(AV.row i o l)] := (rfl)
theorem c_one_row (i o l : Nat) : (AV.row i o l).one = true := (rfl)
theorem c_def_ptr (i k : Nat) : (AV.ptr i k).def = true := (rfl)
theorem c_cells_ptr (i k : Nat) : (AV.ptr i k).cells = [(AV.ptr i k)] := (rfl)
theorem c_one_ptr (i k : Nat) : (AV.ptr i k).one = true := (rfl)
theorem c_def_rptr (i n k : Nat) : (AV.rptr i n k).def = true := (rfl)
theorem c_cells_rptr (i n k : Nat) : (AV.rptr i n k).cells = [(AV.rptr i n k)] := (rfl)
theorem c_one_rptr (i n k : Nat) : (AV.rptr i n k).one = true := (rfl)
theorem c_def_eptr (cs : List AV) (k : Nat) : (AV.eptr cs k).def = true := (rfl)
theorem c_cells_eptr (cs : List AV) (k : Nat) : (AV.eptr cs k).cells = [(AV.eptr cs k)] := (rfl)
theorem c_one_eptr (cs : List AV) (k : Nat) : (AV.eptr cs k).one = true := (rfl)
theorem c_def_nilp  : AV.nilp.def = true := (rfl)
theorem c_cells_nilp  : AV.nilp.cells = [AV.nilp] := (rfl)
theorem c_one_nilp  : AV.nilp.one = true := (rfl)
theorem c_def_agg (cs : List AV) : (AV.agg cs).def = true := (rfl)
theorem c_cells_agg (cs : List AV) : (AV.agg cs).cells = cs := (rfl)
theorem c_one_agg (cs : List AV) : (AV.agg cs).one = false := (rfl)
theorem c_def_tup (vs : List AV) : (AV.tup vs).def = true := (rfl)
theorem c_cells_tup (vs : List AV) : (AV.tup vs).cells = [(AV.tup vs)] := (rfl)
theorem c_one_tup (vs : List AV) : (AV.tup vs).one = false := (rfl)
theorem c_def_fn (f : FuncId) (cs : List AV) : (AV.fn f cs).def = true := (rfl)
theorem c_cells_fn (f : FuncId) (cs : List AV) : (AV.fn f cs).cells = [(AV.fn f cs)] := (rfl)
theorem c_one_fn (f : FuncId) (cs : List AV) : (AV.fn f cs).one = true := (rfl)
theorem c_def_yld (l : Nat) : (AV.yld l).def = true := (rfl)
theorem c_cells_yld (l : Nat) : (AV.yld l).cells = [(AV.yld l)] := (rfl)
theorem c_one_yld (l : Nat) : (AV.yld l).one = true := (rfl)
theorem c_def_nilf  : AV.nilf.def = true := (rfl)
theorem c_cells_nilf  : AV.nilf.cells = [AV.nilf] := (rfl)
theorem c_one_nilf  : AV.nilf.one = true := (rfl)
theorem c_def_map (i : Nat) : (AV.map i).def = true := (rfl)
theorem c_cells_map (i : Nat) : (AV.map i).cells = [(AV.map i)] := (rfl)
theorem c_one_map (i : Nat) : (AV.map i).one = true := (rfl)
theorem c_def_nilm  : AV.nilm.def = true := (rfl)
theorem c_cells_nilm  : AV.nilm.cells = [AV.nilm] := (rfl)
theorem c_one_nilm  : AV.nilm.one = true := (rfl)
theorem c_def_iface (t : TypeId) (v : AV) : (AV.iface t v).def = true := (rfl)
theorem c_cells_iface (t : TypeId) (v : AV) : (AV.iface t v).cells = [(AV.iface t v)] := (rfl)
theorem c_one_iface (t : TypeId) (v : AV) : (AV.iface t v).one = true := (rfl)
theorem c_def_nili  : AV.nili.def = true := (rfl)
theorem c_cells_nili  : AV.nili.cells = [AV.nili] := (rfl)
theorem c_one_nili  : AV.nili.one = true := (rfl)
theorem c_fldA_agg {σ : Sto} {off : Nat} {fi : TyI} (cs : List AV) : fldA σ (some (off, fi)) (.agg cs) = ⟨rdOK fi cs off, rdC fi cs off, σ⟩ := (rfl)
attribute [go_sem] c_def_undef c_cells_undef c_one_undef c_def_bool c_cells_bool c_one_bool c_def_int c_cells_int c_one_int c_def_str c_cells_str c_one_str c_def_list c_cells_list c_one_list c_def_own c_cells_own c_one_own c_def_row c_cells_row c_one_row c_def_ptr c_cells_ptr c_one_ptr c_def_rptr c_cells_rptr c_one_rptr c_def_eptr c_cells_eptr c_one_eptr c_def_nilp c_cells_nilp c_one_nilp c_def_agg c_cells_agg c_one_agg c_def_tup c_cells_tup c_one_tup c_def_fn c_cells_fn c_one_fn c_def_yld c_cells_yld c_one_yld c_def_nilf c_cells_nilf c_one_nilf c_def_map c_cells_map c_one_map c_def_nilm c_cells_nilm c_one_nilm c_def_iface c_cells_iface c_one_iface c_def_nili c_cells_nili c_one_nili c_fldA_agg
attribute [go_sem] resOK_tmp resOK_cell okCell_ptr rdCell_ptr resA_tmp resA_cell allP or_true true_or or_false false_or runR_eq wpr_omove wpr_oassign wpr_opick wpr_obox wpr_oalloc wpr_oload wpr_ostore wpr_ofieldAddr wpr_ofield wpr_oindexAddr wpr_oindex wpr_oextract wpr_obinOp wpr_ounOp wpr_onilCheck wpr_omakeFunc wpr_oconvert wpr_omakeInterface wpr_otypeAssert wpr_obuild wpr_obuildSlice wpr_oslice wpr_omakeSlice wpr_olen wpr_omax wpr_omin wpr_oapp
attribute [go_sem] wr List.nil_append List.cons_append List.append_nil wpr_nil wpr_call wpr_gd gdW_tt gdW_ff gdW_tf gdW_ft gdW_skp ev env0 putA upd_eq loadA storeA lenA mxA mnA bltA appA srcA idxA ixvA binA unA cnvA tasA slcA mkslA faA extA bldA bslA allocA mkfA ifaceA fillA fillL
  AV.isBool AV.theB AV.isInt AV.theI AV.isAddr AV.isFn AV.shift ofV_bool ofV_int ofV_str ofV_sl ofV_ptr ofV_map ofV_if ofV_fn ofV_agg ofV1_bool ofV1_int ofV1_str ofV1_sl ofV1_ptr ofV1_map ofV1_if ofV1_fn aInt aStr Sto.get_none Sto.next_none Sto.get_add Sto.next_add Sto.get_set Sto.next_set Sto.get_del Sto.next_del Sto.set_add Sto.set_set okI valI andK_normal andK_exit andK_ret inBlk_normal inBlk_ret inBlk_exit oneOr boxCells pick_and pick_or
  Bool.false_eq_true if_true if_false and_true true_and List.map_cons List.map_nil List.length_cons List.length_nil List.getD_cons_zero List.getD_cons_succ List.drop_zero List.drop_succ_cons List.take_succ_cons List.take_zero List.all_cons List.all_nil Bool.and_true Bool.true_and
  beq_self_eq_true roOf List.getElem?_toArray List.getElem?_cons_zero List.getElem?_cons_succ Option.bind_some List.toList_toArray
end Go.Lg
/- Lg, part K: loops. -/
namespace Go.Lg
open Go.RowKit
section
variable {C : Cx} {ro : Option Nat} {nt : Nat} {Q : Exit → Env → Sto → Prop} {env : Env} {σ : Sto}
def loopQ (I : Env → Sto → Prop) (Q : Exit → Env → Sto → Prop) : Exit → Env → Sto → Prop
  | .normal => I
  | e => Q e
theorem WK.loopI {k : K} (I : Env → Sto → Prop) (μ : Env → Sto → Nat) (h0 : I env σ)
    (round : ∀ env σ, I env σ → WK C ro nt k (loopQ (fun env' σ' => I env' σ' ∧ μ env' σ' < μ env σ) Q) env σ) : WK C ro nt (.loop k) Q env σ := by
  intro d hd
  cases d with
  | loop a =>
    simp only [toK, K.loop.injEq] at hd
    refine W.loop I μ h0 fun env σ h => (round env σ h a hd).mono fun e env' σ' hq => ?_
    cases e with
    | normal => exact .inl ⟨rfl, hq⟩
    | _ => exact .inr ⟨(by intro h; cases h), hq⟩
  | region id ops d => cases d <;> cases hd
  | _ => cases hd
theorem wrap_lt {n : Int} (h0 : -9223372036854775808 ≤ n) (h1 : n ≤ 9223372036854775807) : IntKind.i64.wrap n = n := IntWalk.i64_in _ ⟨h0, h1⟩
def stepQ (B B2 : Nat) (I : Env → Sto → Prop) (Q : Exit → Env → Sto → Prop) : Exit → Env → Sto → Prop
  | .normal => I
  | .exit id => if id = B2 then I else Q (inBlk B (.exit id))
  | e => Q e
theorem WK.range {B B2 tc ti tl tn t1 t2 t3 t4 : Nat} {inner : K} (n : Nat) (hn : n < 9223372036854775807) (I : Nat → Env → Sto → Prop)
    (hb : tc < nt ∧ ti < nt ∧ tl < nt ∧ tn < nt ∧ ti ≠ tc ∧ tl ≠ tc ∧ ti ≠ tn ∧ tl ≠ tn ∧ tl ≠ ti)
    (hi : env ti = .int .i64 0) (hl : env tl = .int .i64 n) (h0 : I 0 env σ)
    (hfix : ∀ i env σ v t, t = tc ∨ t = tn ∨ t = ti → I i env σ → I i (upd env t v) σ)
    (step : ∀ i env σ, i < n → I i env σ → env ti = .int .i64 i → env tl = .int .i64 n →
      WK C ro nt inner (stepQ B B2 (fun env' σ' => env' ti = .int .i64 i ∧ env' tl = .int .i64 n ∧ I (i + 1) env' σ') Q) env σ)
    (done : ∀ env σ, I n env σ → env ti = .int .i64 n → env tl = .int .i64 n → Q .normal env σ) :
    WK C ro nt (.block B (.loop (.seq (.reg [⟨some tc, .binOp .lss t1 (.tmp ti) (.tmp tl) t2, none⟩])
      (.seq (.cond (.tmp tc) .skip (.exit B)) (.seq (.block B2 inner) (.reg [⟨some tn, .binOp .add t3 (.tmp ti) (.const (.int .i64 1)) t4, none⟩, ⟨some ti, .move (.tmp tn), none⟩])))))) Q env σ := by
  obtain ⟨b1, b2, b3, b4, d1, d2, d3, d4, d5⟩ := hb
  refine WK.block ?_
  refine WK.loopI (fun env σ => ∃ i : Nat, i ≤ n ∧ I i env σ ∧ env ti = .int .i64 i ∧ env tl = .int .i64 n) (fun env _ => n - (env ti).theI.toNat) ⟨0, Nat.zero_le _, h0, hi, hl⟩ ?_
  rintro env σ ⟨i, hin, hI, hi, hl⟩
  have r1 : isCall (.binOp .lss t1 (.tmp ti) (.tmp tl) t2) = false := rfl
  refine WK.seq (WK.reg ?_)
  rw [wpr_op rfl]
  simp only [aop, ev, b2, b3, if_true, hi, hl, binA, aInt, wpr_nil, putA, true_and, andK_normal]
  refine WK.seq ?_
  refine WK.cond (decide ((i : Int) < (n : Int))) (by simp [ev, b1, upd]) (fun ht => ?_) (fun hf => ?_)
  · have hlt : i < n := by simpa using ht
    refine WK.skip ?_
    simp only [andK_normal]
    refine WK.seq (WK.block ?_)
    have hI' := hfix i env σ (.bool (decide ((i : Int) < (n : Int)))) tc (.inl rfl) hI
    refine (step i _ σ hlt hI' (by simp [upd, d1, hi]) (by simp [upd, d2, hl])).mono ?_
    have fin : ∀ env' σ', env' ti = .int .i64 i ∧ env' tl = .int .i64 n ∧ I (i + 1) env' σ' → WK C ro nt (.reg [⟨some tn, .binOp .add t3 (.tmp ti) (.const (.int .i64 1)) t4, none⟩, ⟨some ti, .move (.tmp tn), none⟩])
        (loopQ (fun env'' σ'' => (∃ i : Nat, i ≤ n ∧ I i env'' σ'' ∧ env'' ti = .int .i64 i ∧ env'' tl = .int .i64 n) ∧ n - (env'' ti).theI.toNat < n - (AV.int .i64 (i : Int)).theI.toNat) (fun e => Q (inBlk B e))) env' σ' := by
      rintro env' σ' ⟨h1, h2, h3⟩
      refine WK.reg ?_
      rw [wpr_op rfl]
      simp only [aop, ev, b2, if_true, h1, ofV, ofV1, binA, aInt, putA, true_and]
      rw [wpr_op rfl]
      simp only [aop, ev, b4, if_true, wpr_nil, putA, true_and]
      have hw : IntKind.i64.wrap ((i : Int) + 1) = ((i + 1 : Nat) : Int) := by rw [wrap_lt (by omega) (by omega)]; rfl
      rw [hw]
      refine ⟨⟨i + 1, hlt, ?_, by simp [upd], by simp [upd, d4, d5, h2]⟩, ?_⟩
      · exact hfix _ _ _ _ ti (.inr (.inr rfl)) (hfix _ _ _ _ tn (.inr (.inl rfl)) h3)
      · simp only [upd, if_true, AV.theI, hi]
        omega
    rintro e env' σ' hq
    cases e with
    | normal => exact fin _ _ hq
    | exit id =>
      simp only [stepQ] at hq
      by_cases he : id = B2
      · rw [if_pos he] at hq
        rw [show inBlk B2 (.exit id) = .normal from if_pos he]
        exact fin _ _ hq
      · rw [if_neg he] at hq
        rw [show inBlk B2 (.exit id) = .exit id from if_neg he]
        exact hq
    | _ => exact hq
  · have hge : i = n := by
      have : ¬ ((i : Int) < (n : Int)) := by simpa using hf
      omega
    subst hge
    refine WK.exit ?_
    simp only [andK_exit]
    simp only [loopQ, inBlk, if_true]
    exact done _ _ (hfix _ _ _ _ tc (.inl rfl) hI) (by simp [upd, d1, hi]) (by simp [upd, d2, hl])
end
section
variable {I : Env → Sto → Prop} {Q : Exit → Env → Sto → Prop} {B B2 id : Nat}
theorem loopQ_normal : loopQ I Q .normal = I := (rfl)
theorem loopQ_exit : loopQ I Q (.exit id) = Q (.exit id) := (rfl)
theorem loopQ_ret : loopQ I Q .ret = Q .ret := (rfl)
theorem stepQ_normal : stepQ B B2 I Q .normal = I := (rfl)
theorem stepQ_exit : stepQ B B2 I Q (.exit id) = if id = B2 then I else Q (inBlk B (.exit id)) := (rfl)
theorem stepQ_ret : stepQ B B2 I Q .ret = Q .ret := (rfl)
end
attribute [go_sem] loopQ_normal loopQ_exit loopQ_ret stepQ_normal stepQ_exit stepQ_ret
end Go.Lg
/- Lg, part L: regions that draw the order of their operations. -/
namespace Go.Lg
open Go.RowKit
structure DF where
  mv : Bool
  bk : Nat
  fw : Nat
def pureOp : Op → Bool
  | .move _ | .assign _ | .pick .. | .fieldAddr .. | .field .. | .extract .. | .unOp .. | .nilCheck _ | .makeFunc .. | .build .. | .buildSlice .. | .makeInterface .. => true
  | .binOp .. => true
  | _ => false
def dstOf (ops : Array Oper) (i : Nat) : Option Tmp := (ops[i]?).bind (·.dst)
def tmpsOf (xs : List Operand) : List Tmp := xs.filterMap fun | .tmp t => some t | _ => none
def namesT (ops : Array Oper) (o : Oper) : List Tmp := o.dst.toList ++ tmpsOf o.op.operands.toList ++ (match o.guard with | some (j, _) => (dstOf ops j).toList | none => [])
def flAt (fl : List DF) (i : Nat) : DF := fl.getD i ⟨false, 0, 0⟩
def rank (fl : List DF) (i : Nat) : Nat := (fl.take i).countP (·.mv)
def isB (B : List Nat) (j i : Nat) : Bool := (B.getD j 0).testBit i
def chk1 (ops : Array Oper) (fl : List DF) (B : List Nat) (j : Nat) (o : Oper) (i : Nat) : Bool :=
  (!isB B j i || (decide (i < j) && o.after.toList.any fun e => Region.binds .any e && (e.on == i || isB B e.on i))) &&
  ((namesT ops o).all fun t => dstOf ops i != some t || i == j || (decide (i < j) && isB B j i) || (decide (j < i) && isB B i j)) &&
  (!(flAt fl i).mv || !decide (i < j) || (if (flAt fl j).mv then isB B j i else pureOp o.op || isB B j i || decide (rank fl j ≤ rank fl i + (flAt fl j).bk))) &&
  (!(flAt fl i).mv || !decide (j < i) || (flAt fl j).mv || pureOp o.op || isB B i j || decide (rank fl i < rank fl j + (flAt fl j).fw))
def chk (ops : Array Oper) (fl : List DF) (B : List Nat) : Bool :=
  fl.length == ops.size && (List.range ops.size).all fun j => match ops[j]? with
    | none => false
    | some o => (o.after.toList.all fun e => !Region.binds .any e || decide (e.on < j)) && (List.range ops.size).all fun i => chk1 ops fl B j o i
section
variable {ops : Array Oper} {fl : List DF} {B : List Nat}
theorem chk_at (h : chk ops fl B = true) {j : Nat} {o : Oper} (ho : ops[j]? = some o) :
    (∀ e ∈ o.after, Region.binds .any e = true → e.on < j) ∧ ∀ i, i < ops.size → chk1 ops fl B j o i = true := by
  simp only [chk, Bool.and_eq_true, List.all_eq_true, List.mem_range] at h
  have hj : j < ops.size := (Array.getElem?_eq_some_iff.1 ho).1
  have h2 := h.2 j hj
  rw [ho] at h2
  simp only [Bool.and_eq_true, List.all_eq_true, List.mem_range, Bool.or_eq_true, Bool.not_eq_true', decide_eq_true_eq] at h2
  refine ⟨fun e he hb => ?_, h2.2⟩
  rcases h2.1 e (Array.mem_toList_iff.2 he) with h3 | h3
  · rw [hb] at h3; cases h3
  · exact h3
theorem chk_b (h : chk ops fl B = true) {j i : Nat} {o : Oper} (ho : ops[j]? = some o) (hi : i < ops.size) (hb : isB B j i = true) : i < j ∧ ∃ e ∈ o.after, Region.binds .any e = true ∧ (e.on = i ∨ isB B e.on i = true) := by
  have h1 := (chk_at h ho).2 i hi
  simp only [chk1, Bool.and_eq_true, Bool.or_eq_true, hb, Bool.not_true, Bool.false_eq_true, false_or, decide_eq_true_eq, List.any_eq_true, beq_iff_eq] at h1
  obtain ⟨⟨⟨⟨h1, e, he, hbd, h2⟩, _⟩, _⟩, _⟩ := h1
  exact ⟨h1, e, Array.mem_toList_iff.1 he, hbd, h2⟩
theorem chk_n (h : chk ops fl B = true) {j i : Nat} {o : Oper} {t : Tmp} (ho : ops[j]? = some o) (hi : i < ops.size) (ht : t ∈ namesT ops o) (hd : dstOf ops i = some t) : i = j ∨ (i < j ∧ isB B j i = true) ∨ (j < i ∧ isB B i j = true) := by
  have h1 := (chk_at h ho).2 i hi
  simp only [chk1, Bool.and_eq_true, List.all_eq_true] at h1
  have h2 := h1.1.1.2 t ht
  simp only [hd, Bool.or_eq_true, bne_self_eq_false, Bool.false_eq_true, false_or, beq_iff_eq, Bool.and_eq_true, decide_eq_true_eq] at h2
  rcases h2 with (h2 | h2) | h2
  · exact .inl h2
  · exact .inr (.inl h2)
  · exact .inr (.inr h2)
theorem chk_m (h : chk ops fl B = true) {j i : Nat} {o : Oper} (ho : ops[j]? = some o) (hi : i < ops.size) (hij : i < j) (hm : (flAt fl i).mv = true) :
    if (flAt fl j).mv = true then isB B j i = true else pureOp o.op = true ∨ isB B j i = true ∨ rank fl j ≤ rank fl i + (flAt fl j).bk := by
  have h1 := (chk_at h ho).2 i hi
  simp only [chk1, Bool.and_eq_true, Bool.or_eq_true, hm, hij, Bool.not_true, Bool.false_eq_true, false_or, decide_true] at h1
  have h2 := h1.1.2
  split
  · rename_i e; rw [if_pos e] at h2; exact h2
  · rename_i e; rw [if_neg e] at h2
    simp only [Bool.or_eq_true, decide_eq_true_eq] at h2
    rcases h2 with (h2 | h2) | h2
    · exact .inl h2
    · exact .inr (.inl h2)
    · exact .inr (.inr h2)
theorem chk_f (h : chk ops fl B = true) {j i : Nat} {o : Oper} (ho : ops[j]? = some o) (hi : i < ops.size) (hij : j < i) (hm : (flAt fl i).mv = true) (hj : (flAt fl j).mv = false) :
    pureOp o.op = true ∨ isB B i j = true ∨ rank fl i < rank fl j + (flAt fl j).fw := by
  have h1 := (chk_at h ho).2 i hi
  simp only [chk1, Bool.and_eq_true, Bool.or_eq_true, hm, hj, hij, Bool.not_true, Bool.false_eq_true, false_or, decide_true, decide_eq_true_eq] at h1
  rcases h1.2 with (h2 | h2) | h2
  · exact .inl h2
  · exact .inr (.inl h2)
  · exact .inr (.inr h2)
theorem rank_succ (i : Nat) (hi : i < fl.length) : rank fl (i + 1) = rank fl i + if (flAt fl i).mv = true then 1 else 0 := by
  have e : flAt fl i = fl[i] := by simp [flAt, List.getD_eq_getElem?_getD, List.getElem?_eq_getElem hi]
  have e2 : fl.take (i + 1) = fl.take i ++ [fl[i]] := (List.take_append_getElem hi).symm
  rw [rank, e2, List.countP_append, List.countP_singleton, e]
  rfl
theorem rank_mono {i j : Nat} (h : i ≤ j) : rank fl i ≤ rank fl j := by
  have e : fl.take i = (fl.take j).take i := by rw [List.take_take, Nat.min_eq_left h]
  rw [rank, e]
  exact List.Sublist.countP_le (List.take_sublist _ _)
theorem rank_lt {i j : Nat} (h : i < j) (hj : j ≤ fl.length) (hm : (flAt fl i).mv = true) : rank fl i < rank fl j := by
  have h1 := rank_succ (fl := fl) i (by omega)
  rw [if_pos hm] at h1
  have := rank_mono (fl := fl) (show i + 1 ≤ j from h)
  omega
def envAt (ops : Array Oper) (val : Nat → AV) (env0 : Env) : Nat → Env
  | 0 => env0
  | i + 1 => putA (envAt ops val env0 i) (dstOf ops i) (val i)
def EnvL (ops : Array Oper) (val : Nat → AV) (env0 : Env) (L : Nat → Prop) (env : Env) : Prop :=
  ∀ t, (∀ i, i < ops.size → L i → dstOf ops i = some t → (∀ j, j < ops.size → L j → dstOf ops j = some t → j ≤ i) → env t = val i) ∧ ((∀ i, i < ops.size → L i → dstOf ops i ≠ some t) → env t = env0 t)
theorem max_of {p : Nat → Prop} {n : Nat} (h : ∃ i, i < n ∧ p i) : ∃ i, i < n ∧ p i ∧ ∀ j, j < n → p j → j ≤ i := by
  induction n with
  | zero => obtain ⟨i, h, _⟩ := h; omega
  | succ n ih =>
    by_cases hn : p n
    · exact ⟨n, by omega, hn, fun j hj _ => by omega⟩
    · obtain ⟨i, hi, hp⟩ := h
      have hne : i ≠ n := by rintro rfl; exact hn hp
      obtain ⟨k, h1, h2, h3⟩ := ih ⟨i, by omega, hp⟩
      refine ⟨k, by omega, h2, fun j hj hp => ?_⟩
      have : j ≠ n := by rintro rfl; exact hn hp
      exact h3 j (by omega) hp
theorem EnvL.agree {val : Nat → AV} {env0 env env' : Env} {L L' : Nat → Prop} (h : EnvL ops val env0 L env) (h' : EnvL ops val env0 L' env') {t : Tmp} (hl : ∀ i, i < ops.size → dstOf ops i = some t → (L i ↔ L' i)) : env t = env' t := by
  by_cases hex : ∃ i, i < ops.size ∧ (L i ∧ dstOf ops i = some t)
  · obtain ⟨i, hi, ⟨h1, h2⟩, h3⟩ := max_of hex
    rw [(h t).1 i hi h1 h2 (fun j hj hL hd => h3 j hj ⟨hL, hd⟩)]
    exact ((h' t).1 i hi ((hl i hi h2).1 h1) h2 (fun j hj hL hd => h3 j hj ⟨(hl j hj hd).2 hL, hd⟩)).symm
  · rw [(h t).2 (fun i hi hL hd => hex ⟨i, hi, hL, hd⟩), (h' t).2 (fun i hi hL hd => hex ⟨i, hi, (hl i hi hd).2 hL, hd⟩)]
theorem envAt_L (val : Nat → AV) (env0 : Env) : ∀ k, k ≤ ops.size → EnvL ops val env0 (· < k) (envAt ops val env0 k)
  | 0, _ => fun t => ⟨fun i _ h => by omega, fun _ => rfl⟩
  | k + 1, hk => fun t => by
    obtain ⟨h1, h2⟩ := envAt_L val env0 k (by omega) t
    simp only [envAt]
    by_cases hd : dstOf ops k = some t
    · rw [hd]
      refine ⟨fun i hi hL hdi hmax => ?_, fun h => absurd hd (h k (by omega) (by omega))⟩
      have := hmax k (by omega) (by omega) hd
      have e : i = k := by omega
      subst e
      simp [putA, upd]
    · have e : putA (envAt ops val env0 k) (dstOf ops k) (val k) t = envAt ops val env0 k t := by
        cases hdk : dstOf ops k with
        | none => rfl
        | some d =>
          have : t ≠ d := by rintro rfl; exact hd hdk
          simp [putA, upd, this]
      rw [e]
      refine ⟨fun i hi hL hdi hmax => h1 i hi ?_ hdi fun j hj hj2 hdj => hmax j hj (by omega) hdj, fun h => h2 fun i hi hL => h i hi (by omega)⟩
      rcases Nat.lt_or_ge i k with h | h
      · exact h
      · have e : i = k := by omega
        subst e; exact absurd hdi hd
structure Good (C : Cx) (nt : Nat) (ops : Array Oper) (fl : List DF) (val : Nat → AV) (st : Nat → Sto) (env0 : Env) (i : Nat) (o : Oper) : Prop where
  g : gOK (guardA nt ops (envAt ops val env0 i) o)
  go : goesA (guardA nt ops (envAt ops val env0 i) o) = true →
    if (flAt fl i).mv = true then OpStep C o (ev C nt (envAt ops val env0 i)) (st (rank fl i)) (val i) (st (rank fl i + 1))
    else ∀ q, (pureOp o.op = true ∨ (rank fl i ≤ q + (flAt fl i).bk ∧ q ≤ rank fl i + (flAt fl i).fw ∧ q ≤ rank fl ops.size)) → OpStep C o (ev C nt (envAt ops val env0 i)) (st q) (val i) (st q)
  no : goesA (guardA nt ops (envAt ops val env0 i) o) = false → val i = .skp ∧ ((flAt fl i).mv = true → st (rank fl i + 1) = st (rank fl i))
  ao : goesA (guardA nt ops (envAt ops val env0 i) o) = true → (flAt fl i).mv = true → isCall o.op = false → (aop C (ev C nt (envAt ops val env0 i)) (st (rank fl i)) o.op).c ∧ val i = (aop C (ev C nt (envAt ops val env0 i)) (st (rank fl i)) o.op).v ∧ st (rank fl i + 1) = (aop C (ev C nt (envAt ops val env0 i)) (st (rank fl i)) o.op).s
theorem OpStep.congr {C : Cx} {o : Oper} {ρ ρ' : Operand → AV} {σ σ' : Sto} {v : AV} (h : OpStep C o ρ σ v σ') (he : ∀ x ∈ o.op.operands.toList, ρ x = ρ' x) : OpStep C o ρ' σ v σ' :=
  fun ro w0 G a w hi hx next Q hn => h ro w0 G a w hi (fun x hm => by rw [he x hm]; exact hx x hm) next Q hn
theorem countP_lt {α : Type} {p q : α → Bool} (hpq : ∀ x, q x = true → p x = true) {a : α} : ∀ {l : List α}, a ∈ l → p a = true → q a = false → l.countP q < l.countP p
  | x :: l, h, hp, hq => by
    rw [List.countP_cons, List.countP_cons]
    have hle : l.countP q ≤ l.countP p := List.countP_mono_left fun x _ => hpq x
    rcases List.mem_cons.1 h with rfl | h
    · simp [hp, hq]; omega
    · have := countP_lt hpq h hp hq
      have h2 := hpq x
      cases hqx : q x <;> cases hpx : p x <;> simp_all <;> omega
structure LS (ops : Array Oper) (fl : List DF) (B : List Nat) (val : Nat → AV) (env0 : Env) (listed : Array Bool) (m : Nat) (env : Env) : Prop where
  size : listed.size = ops.size
  cl : ∀ j i, j < ops.size → i < ops.size → listed.getD j false = true → isB B j i = true → listed.getD i false = true
  mv : ∀ i, i < ops.size → (flAt fl i).mv = true → (listed.getD i false = true ↔ rank fl i < m)
  le : m ≤ rank fl ops.size
  env : EnvL ops val env0 (fun i => listed.getD i false = true) env
theorem ready_b (h : chk ops fl B = true) {val : Nat → AV} {env0 env : Env} {listed : Array Bool} {m : Nat} (hl : LS ops fl B val env0 listed m env) {i : Nat} (hr : i ∈ Region.ready .any ops listed) :
    ∃ o, ops[i]? = some o ∧ i < ops.size ∧ listed.getD i false = false ∧ ∀ k, k < ops.size → isB B i k = true → listed.getD k false = true := by
  obtain ⟨h0, o, ho, hall⟩ := mem_ready.1 hr
  have hi : i < ops.size := (Array.getElem?_eq_some_iff.1 ho).1
  refine ⟨o, ho, hi, ?_, fun k hk hb => ?_⟩
  · have : i < listed.size := by rw [hl.size]; exact hi
    simpa [Array.getD_eq_getD_getElem?, this] using h0
  · obtain ⟨_, e, he, hbd, h2⟩ := chk_b h ho hk hb
    have h3 := hall e he hbd
    rcases h2 with rfl | h2
    · exact h3
    · exact hl.cl e.on k (Nat.lt_trans ((chk_at h ho).1 e he hbd) hi) hk h3 h2
theorem anyD {C : Cx} {ro : Option Nat} {nt : Nat} {val : Nat → AV} {st : Nat → Sto} {env0 : Env} (h : chk ops fl B = true) (hlen : fl.length = ops.size) (good : ∀ i o, ops[i]? = some o → Good C nt ops fl val st env0 i o)
    {w0 : World} {Q : Exit → Act → World → Prop} {G0 : Gh} {σ0 : Sto} {ws : World} {df : List Deferred}
    (hQ : ∀ G a w, Rel C w0 G nt (envAt ops val env0 ops.size) (st (rank fl ops.size)) a w → Ext G0 σ0 ws G (st (rank fl ops.size)) w → a.defers = df → Q .normal a w) :
    ∀ fuel listed env m G a w, (List.range ops.size).countP (fun i => !listed.getD i false) ≤ fuel → LS ops fl B val env0 listed m env → Rel C w0 G nt env (st m) a w → Ext G0 σ0 ws G (st m) w → a.defers = df →
      wpAnyIn (FW ro) 0 C.P .any ops Q fuel listed a w := by
  have hempty : ∀ listed env m G a w, LS ops fl B val env0 listed m env → Rel C w0 G nt env (st m) a w → Ext G0 σ0 ws G (st m) w → a.defers = df → Region.ready .any ops listed = [] → Q .normal a w := by
    intro listed env m G a w hl hrel hext hdf hr
    have hall : ∀ i, i < ops.size → listed.getD i false = true := by
      intro i
      induction i using Nat.strongRecOn with
      | _ i ih =>
        intro hi
        cases hli : listed.getD i false with
        | true => rfl
        | false =>
          exfalso
          have : i ∈ Region.ready .any ops listed := by
            refine mem_ready.2 ⟨?_, ops[i], Array.getElem?_eq_getElem hi, fun e he hb => ?_⟩
            · have hs : i < listed.size := by rw [hl.size]; exact hi
              simpa [Array.getD_eq_getD_getElem?, hs] using hli
            · have hlt := (chk_at h (Array.getElem?_eq_getElem hi)).1 e he hb
              exact ih e.on hlt (Nat.lt_trans hlt hi)
          rw [hr] at this; cases this
    have hm : m = rank fl ops.size := by
      rcases Nat.lt_or_ge m (rank fl ops.size) with hlt | hge
      · exfalso
        -- the moving operation of rank m
        have : ∀ k, k ≤ ops.size → m < rank fl k → ∃ i, i < k ∧ (flAt fl i).mv = true ∧ rank fl i = m := by
          intro k
          induction k with
          | zero => intro _ h; simp [rank] at h
          | succ k ih =>
            intro hk hlt
            have hs := rank_succ (fl := fl) k (by omega)
            by_cases hmv : (flAt fl k).mv = true
            · rw [if_pos hmv] at hs
              by_cases e : rank fl k = m
              · exact ⟨k, by omega, hmv, e⟩
              · obtain ⟨i, h1, h2⟩ := ih (by omega) (by omega)
                exact ⟨i, by omega, h2⟩
            · rw [if_neg hmv] at hs
              obtain ⟨i, h1, h2⟩ := ih (by omega) (by omega)
              exact ⟨i, by omega, h2⟩
        obtain ⟨i, h1, h2, h3⟩ := this ops.size (Nat.le_refl _) hlt
        have := (hl.mv i h1 h2).1 (hall i h1)
        omega
      · have := hl.le; omega
    subst hm
    have he : env = envAt ops val env0 ops.size := by
      funext t
      exact hl.env.agree (envAt_L val env0 ops.size (Nat.le_refl _)) fun i hi _ => ⟨fun _ => hi, fun _ => hall i hi⟩
    subst he
    exact hQ G a w hrel hext hdf
  intro fuel
  induction fuel with
  | zero =>
    intro listed env m G a w hc hl hrel hext hdf
    have hr : Region.ready .any ops listed = [] := by
      cases hr : Region.ready .any ops listed with
      | nil => rfl
      | cons i l =>
        obtain ⟨o, ho, hi, h1, _⟩ := ready_b h hl (i := i) (by rw [hr]; simp)
        have := List.countP_eq_zero.1 (Nat.le_zero.1 hc) i (List.mem_range.2 hi)
        simp [h1] at this
    exact ⟨hr, hempty listed env m G a w hl hrel hext hdf hr⟩
  | succ fuel ih =>
    intro listed env m G a w hc hl hrel hext hdf
    refine ⟨hempty listed env m G a w hl hrel hext hdf, fun i hr => ?_⟩
    obtain ⟨o, ho, hi, hun, hbef⟩ := ready_b h hl hr
    have hgood := good i o ho
    -- the environments agree where the operation looks
    have hag : ∀ t ∈ namesT ops o, env t = envAt ops val env0 i t := fun t ht => by
      refine hl.env.agree (envAt_L val env0 i (by omega)) fun j hj hd => ?_
      rcases chk_n h ho hj ht hd with rfl | ⟨h1, h2⟩ | ⟨h1, h2⟩
      · exact ⟨fun hL => absurd (hL.symm.trans hun) (by decide), fun hL => absurd hL (Nat.lt_irrefl _)⟩
      · exact ⟨fun _ => h1, fun _ => hbef j hj h2⟩
      · exact ⟨fun hL => absurd ((hl.cl j i hj hi hL h2).symm.trans hun) (by decide), fun hL => absurd hL (by omega)⟩
    have hev : ∀ x ∈ o.op.operands.toList, ev C nt (envAt ops val env0 i) x = ev C nt env x := fun x hx => by
      cases x with
      | tmp t =>
        have : t ∈ namesT ops o := by
          simp only [namesT, List.mem_append]
          exact .inl (.inr (List.mem_filterMap.2 ⟨.tmp t, hx, rfl⟩))
        simp only [ev, hag t this]
      | _ => rfl
    have hgd : guardA nt ops env o = guardA nt ops (envAt ops val env0 i) o := by
      unfold guardA
      cases hg : o.guard with
      | none => rfl
      | some jw =>
        obtain ⟨j, want⟩ := jw
        simp only
        cases hd : (ops[j]?).bind (·.dst) with
        | none => rfl
        | some d =>
          have : d ∈ namesT ops o := by
            simp only [namesT, List.mem_append, hg]
            exact .inr (by simp [dstOf, hd])
          simp only [hag d this]
    -- what is listed then
    have hset : ∀ k, k < ops.size → (listed.setIfInBounds i true).getD k false = if k = i then true else listed.getD k false := fun k hk => by
      by_cases e : k = i
      · subst e
        have : k < listed.size := by rw [hl.size]; exact hk
        simp [Array.getD_eq_getD_getElem?, this]
      · rw [if_neg e]; exact getD_set_ne false (Ne.symm e)
    have hlater : ∀ k, k < ops.size → isB B k i = true → listed.getD k false = false := fun k hk hb => by
      cases hL : listed.getD k false with
      | false => rfl
      | true => have := hl.cl k i hk hi hL hb; rw [hun] at this; cases this
    have hcnt : (List.range ops.size).countP (fun k => !(listed.setIfInBounds i true).getD k false) ≤ fuel := by
      have : (List.range ops.size).countP (fun k => !(listed.setIfInBounds i true).getD k false) < (List.range ops.size).countP (fun k => !listed.getD k false) := by
        refine countP_lt (a := i) (fun x hx => ?_) (List.mem_range.2 hi) (by simp [hun]) (by simp [hset i hi])
        by_cases e : x = i
        · subst e; simp [hun]
        · rw [getD_set_ne false (Ne.symm e)] at hx; exact hx
      omega
    have hdst : dstOf ops i = o.dst := by simp [dstOf, ho]
    have hmle : (flAt fl i).mv = true → m = rank fl i := fun hmv => by
      have h1 : ¬ rank fl i < m := fun h => by have := (hl.mv i hi hmv).2 h; rw [hun] at this; cases this
      rcases Nat.lt_or_ge m (rank fl i) with hlt | hge
      · exfalso
        have : ∀ k, k ≤ i → m < rank fl k → ∃ j, j < k ∧ (flAt fl j).mv = true ∧ rank fl j = m := by
          intro k
          induction k with
          | zero => intro _ h; simp [rank] at h
          | succ k ih =>
            intro hk hlt
            have hs := rank_succ (fl := fl) k (by omega)
            by_cases hmv : (flAt fl k).mv = true
            · rw [if_pos hmv] at hs
              by_cases e : rank fl k = m
              · exact ⟨k, by omega, hmv, e⟩
              · obtain ⟨j, h1, h2⟩ := ih (by omega) (by omega)
                exact ⟨j, by omega, h2⟩
            · rw [if_neg hmv] at hs
              obtain ⟨j, h1, h2⟩ := ih (by omega) (by omega)
              exact ⟨j, by omega, h2⟩
        obtain ⟨j, h2, h3, h4⟩ := this i (Nat.le_refl _) hlt
        have h5 := chk_m h ho (show j < ops.size by omega) h2 h3
        rw [if_pos hmv] at h5
        have := (hl.mv j (by omega) h3).1 (hbef j (by omega) h5)
        omega
      · omega
    have hLS : ∀ m', (m' = if (flAt fl i).mv = true then m + 1 else m) → LS ops fl B val env0 (listed.setIfInBounds i true) m' (putA env o.dst (val i)) := fun m' hm' => {
      size := by simp [hl.size]
      cl := fun j k hj hk hL hb => by
        rw [hset k hk]
        rw [hset j hj] at hL
        by_cases ek : k = i
        · rw [if_pos ek]
        · rw [if_neg ek]
          by_cases ej : j = i
          · subst ej; exact hbef k hk hb
          · rw [if_neg ej] at hL; exact hl.cl j k hj hk hL hb
      mv := fun k hk hmk => by
        rw [hset k hk]
        by_cases ek : k = i
        · subst ek
          rw [if_pos hmk] at hm'
          have := hmle hmk
          simp; omega
        · rw [if_neg ek, hl.mv k hk hmk]
          by_cases hmi : (flAt fl i).mv = true
          · rw [if_pos hmi] at hm'
            have hmr := hmle hmi
            have hne : rank fl k ≠ rank fl i := by
              rcases Nat.lt_or_gt_of_ne ek with hlt | hgt
              · have := rank_lt (fl := fl) hlt (by omega) hmk; omega
              · have := rank_lt (fl := fl) hgt (by omega) hmi; omega
            omega
          · rw [if_neg hmi] at hm'; omega
      le := by
        by_cases hmi : (flAt fl i).mv = true
        · rw [if_pos hmi] at hm'
          have hmr := hmle hmi
          have := rank_lt (fl := fl) hi (by omega) hmi
          omega
        · rw [if_neg hmi] at hm'; have := hl.le; omega
      env := fun t => by
        by_cases hd : o.dst = some t
        · have e : putA env o.dst (val i) t = val i := by rw [hd]; simp [putA, upd]
          rw [e]
          have ht : t ∈ namesT ops o := by simp [namesT, hd]
          refine ⟨fun k hk hL hdk hmax => ?_, fun hno => absurd (hdst.trans hd) (hno i hi (by show (listed.setIfInBounds i true).getD i false = true; rw [hset i hi, if_pos rfl]))⟩
          by_cases ek : k = i
          · subst ek; rfl
          · exfalso
            have hL : (listed.setIfInBounds i true).getD k false = true := hL
            rw [hset k hk, if_neg ek] at hL
            have hle := hmax i hi (by show (listed.setIfInBounds i true).getD i false = true; rw [hset i hi, if_pos rfl]) (hdst.trans hd)
            rcases chk_n h ho hk ht hdk with rfl | ⟨h1, h2⟩ | ⟨h1, h2⟩
            · exact ek rfl
            · omega
            · rw [hlater k hk h2] at hL; cases hL
        · have e : putA env o.dst (val i) t = env t := by
            cases hdo : o.dst with
            | none => rfl
            | some d =>
              have : t ≠ d := by rintro rfl; exact hd hdo
              simp [putA, upd, this]
          rw [e]
          obtain ⟨e1, e2⟩ := hl.env t
          refine ⟨fun k hk hL hdk hmax => e1 k hk ?_ hdk fun j hj hLj hdj => hmax j hj ?_ hdj, fun hno => e2 fun k hk hL => hno k hk ?_⟩
          · have hL : (listed.setIfInBounds i true).getD k false = true := hL
            rw [hset k hk] at hL
            by_cases ek : k = i
            · subst ek; exact absurd (hdst.symm.trans hdk) hd
            · rw [if_neg ek] at hL; exact hL
          · show (listed.setIfInBounds i true).getD j false = true
            rw [hset j hj]
            by_cases ej : j = i
            · rw [if_pos ej]
            · rw [if_neg ej]; exact hLj
          · show (listed.setIfInBounds i true).getD k false = true
            rw [hset k hk]
            by_cases ek : k = i
            · rw [if_pos ek]
            · rw [if_neg ek]; exact hL }
    unfold wpOpIn
    simp only [ho]
    rw [wanted_eq hrel.env (by rw [hgd]; exact hgood.g)]
    rw [hgd]
    cases hgo : goesA (guardA nt ops (envAt ops val env0 i) o) with
    | true =>
      simp only [if_true]
      have hgo' := hgood.go hgo
      have hstep : ∃ m', (m' = if (flAt fl i).mv = true then m + 1 else m) ∧ OpStep C o (ev C nt env) (st m) (val i) (st m') := by
        by_cases hmi : (flAt fl i).mv = true
        · rw [if_pos hmi] at hgo' ⊢
          have hmr := hmle hmi
          rw [← hmr] at hgo'
          exact ⟨m + 1, rfl, hgo'.congr hev⟩
        · rw [if_neg hmi] at hgo' ⊢
          refine ⟨m, rfl, (hgo' m ?_).congr hev⟩
          by_cases hp : pureOp o.op = true
          · exact .inl hp
          · refine .inr ⟨?_, ?_, hl.le⟩
            · rcases Nat.lt_or_ge (m + (flAt fl i).bk) (rank fl i) with hlt | hge
              · exfalso
                have : ∀ k, k ≤ i → m < rank fl k → ∃ j, j < k ∧ (flAt fl j).mv = true ∧ rank fl j = m := by
                  intro k
                  induction k with
                  | zero => intro _ h; simp [rank] at h
                  | succ k ih =>
                    intro hk hlt
                    have hs := rank_succ (fl := fl) k (by omega)
                    by_cases hmv : (flAt fl k).mv = true
                    · rw [if_pos hmv] at hs
                      by_cases e : rank fl k = m
                      · exact ⟨k, by omega, hmv, e⟩
                      · obtain ⟨j, h1, h2⟩ := ih (by omega) (by omega)
                        exact ⟨j, by omega, h2⟩
                    · rw [if_neg hmv] at hs
                      obtain ⟨j, h1, h2⟩ := ih (by omega) (by omega)
                      exact ⟨j, by omega, h2⟩
                obtain ⟨j, h2, h3, h4⟩ := this i (Nat.le_refl _) (by omega)
                have h5 := chk_m h ho (show j < ops.size by omega) h2 h3
                rw [if_neg hmi] at h5
                rcases h5 with h5 | h5 | h5
                · exact hp h5
                · have := (hl.mv j (by omega) h3).1 (hbef j (by omega) h5); omega
                · omega
              · exact hge
            · rcases Nat.lt_or_ge (rank fl i + (flAt fl i).fw) m with hlt | hge
              · exfalso
                have : ∀ k, k ≤ ops.size → rank fl i + (flAt fl i).fw < rank fl k → ∃ j, j < k ∧ (flAt fl j).mv = true ∧ rank fl j = rank fl i + (flAt fl i).fw := by
                  intro k
                  induction k with
                  | zero => intro _ h; simp [rank] at h
                  | succ k ih =>
                    intro hk hlt
                    have hs := rank_succ (fl := fl) k (by omega)
                    by_cases hmv : (flAt fl k).mv = true
                    · rw [if_pos hmv] at hs
                      by_cases e : rank fl k = rank fl i + (flAt fl i).fw
                      · exact ⟨k, by omega, hmv, e⟩
                      · obtain ⟨j, h1, h2⟩ := ih (by omega) (by omega)
                        exact ⟨j, by omega, h2⟩
                    · rw [if_neg hmv] at hs
                      obtain ⟨j, h1, h2⟩ := ih (by omega) (by omega)
                      exact ⟨j, by omega, h2⟩
                obtain ⟨j, h2, h3, h4⟩ := this ops.size (Nat.le_refl _) (by have := hl.le; omega)
                have hLj := (hl.mv j h2 h3).2 (by omega)
                have hij : i < j := by
                  rcases Nat.lt_or_ge i j with h | h
                  · exact h
                  · exfalso
                    rcases Nat.lt_or_eq_of_le h with h | rfl
                    · have := rank_lt (fl := fl) h (by omega) h3; omega
                    · exact hmi h3
                have h5 := chk_f h ho h2 hij h3 (by simpa using hmi)
                rcases h5 with h5 | h5 | h5
                · exact hp h5
                · rw [hlater j h2 h5] at hLj; cases hLj
                · omega
              · exact hge
      obtain ⟨m', hm', hstep⟩ := hstep
      refine hstep ro w0 G a w hrel.inv (fun x _ => hrel.env.ev hrel.inv x) _ _ fun G' v' w' hr hi' he => ?_
      refine ih _ _ m' G' _ w' hcnt (hLS m' hm') ⟨hi', (hrel.env.mono he.le).put hr o.dst⟩ (hext.trans he) ?_
      rw [← hdf]; cases o.dst <;> rfl
    | false =>
      simp only [Bool.false_eq_true, if_false]
      refine ⟨fun _ _ => trivial, ?_⟩
      obtain ⟨hv, hs⟩ := hgood.no hgo
      have hst : ∃ m', (m' = if (flAt fl i).mv = true then m + 1 else m) ∧ st m' = st m := by
        by_cases hmi : (flAt fl i).mv = true
        · rw [if_pos hmi]
          have hmr := hmle hmi
          exact ⟨_, rfl, by rw [hmr]; exact hs hmi⟩
        · rw [if_neg hmi]; exact ⟨_, rfl, rfl⟩
      obtain ⟨m', hm', hsm⟩ := hst
      refine ih _ _ m' G _ w hcnt (hLS m' hm') ⟨by rw [hsm]; exact hrel.inv, by rw [hv]; exact hrel.env.put (rep_skp G) o.dst⟩ (by rw [hsm]; exact hext) ?_
      rw [← hdf]; cases o.dst <;> rfl
end
theorem aop_pure {C : Cx} {ρ : Operand → AV} {op : Op} (h : pureOp op = true) (σ σ' : Sto) : (aop C ρ σ op).s = σ ∧ aop C ρ σ' op = ⟨(aop C ρ σ op).c, (aop C ρ σ op).v, σ'⟩ := by
  cases op <;> first | (cases h; done) | skip
  case move => exact ⟨rfl, rfl⟩
  case assign => exact ⟨rfl, rfl⟩
  case pick => exact ⟨rfl, rfl⟩
  case fieldAddr t x f => simp only [aop, faA]; split <;> exact ⟨rfl, rfl⟩
  case field t x f => simp only [aop, fldA]; split <;> exact ⟨rfl, rfl⟩
  case extract x k => simp only [aop, extA]; split <;> exact ⟨rfl, rfl⟩
  case binOp => simp only [aop, binA]; split <;> exact ⟨rfl, rfl⟩
  case unOp => simp only [aop, unA]; split <;> exact ⟨rfl, rfl⟩
  case nilCheck => exact ⟨rfl, rfl⟩
  case makeFunc => simp only [aop, mkfA]; split <;> exact ⟨rfl, rfl⟩
  case makeInterface => simp only [aop, ifaceA]; split <;> exact ⟨rfl, rfl⟩
  case build => simp only [aop, bldA]; split <;> exact ⟨rfl, rfl⟩
  case buildSlice => simp only [aop, bslA]; split <;> exact ⟨rfl, rfl⟩
abbrev Obl := List (Nat × (Sto → Prop))
def oblOK (σ : Sto) : Obl → Prop
  | [] => True
  | p :: ps => (if p.1 = 0 then True else p.2 σ) ∧ oblOK σ ps
def oblDec : Obl → Obl
  | [] => []
  | p :: ps => (p.1 - 1, p.2) :: oblDec ps
def allS (P : Sto → Prop) : List Sto → Prop
  | [] => True
  | σ :: l => P σ ∧ allS P l
theorem oblOK_at {σ : Sto} {p : Nat × (Sto → Prop)} : ∀ {ob : Obl}, oblOK σ ob → p ∈ ob → 0 < p.1 → p.2 σ
  | q :: ob, h, hp, h0 => by
    rcases List.mem_cons.1 hp with rfl | hp
    · have := h.1; rw [if_neg (by omega)] at this; exact this
    · exact oblOK_at h.2 hp h0
theorem oblDec_at {p : Nat × (Sto → Prop)} : ∀ {ob : Obl}, p ∈ ob → (p.1 - 1, p.2) ∈ oblDec ob
  | q :: ob, hp => by
    rcases List.mem_cons.1 hp with rfl | hp
    · simp [oblDec]
    · simp only [oblDec, List.mem_cons]; exact .inr (oblDec_at hp)
theorem allS_at {P : Sto → Prop} {σ : Sto} : ∀ {l : List Sto}, allS P l → σ ∈ l → P σ
  | τ :: l, h, hm => by
    rcases List.mem_cons.1 hm with rfl | hm
    · exact h.1
    · exact allS_at h.2 hm
def sameR (v : AV) (σ : Sto) (r : AR) : Prop := r.c ∧ r.v = v ∧ r.s = σ
def stillR (σ : Sto) (r : AR) (K : AV → Prop) : Prop := r.c ∧ r.s = σ ∧ K r.v
def moveR (r : AR) (K : AV → Sto → Prop) : Prop := r.c ∧ K r.v r.s
theorem call_notPure {op : Op} (h : isCall op = true) : pureOp op = false := by
  cases op with
  | call c => rfl
  | _ => first | rfl | cases h
def qcall (C : Cx) (ρ : Operand → AV) (op : Op) (v : AV) (σ0 : Sto) : Prop := ∀ o : Oper, o.op = op → OpStep C o ρ σ0 v σ0
def wpD (C : Cx) (nt : Nat) (K : Env → Sto → Prop) : List (RO × DF) → List Sto → Obl → Env → Sto → Prop
  | [], _, _ => K
  | (r, f) :: rs, hist, ob => fun env σ => gdR C nt r.gd env
      (if f.mv = true then (if isCall r.op = true then callR C (ev C nt env) σ r.op (fun v σ1 => oblOK σ1 ob ∧ wpD C nt K rs (σ :: hist) (oblDec ob) (putA env r.dst v) σ1)
          else moveR (aop C (ev C nt env) σ r.op) fun v σ1 => oblOK σ1 ob ∧ wpD C nt K rs (σ :: hist) (oblDec ob) (putA env r.dst v) σ1)
        else if isCall r.op = true then (∃ v, qcall C (ev C nt env) r.op v σ ∧ allS (qcall C (ev C nt env) r.op v) (hist.take f.bk) ∧ wpD C nt K rs hist (if f.fw = 0 then ob else (f.fw, qcall C (ev C nt env) r.op v) :: ob) (putA env r.dst v) σ)
        else isCall r.op = false ∧ stillR σ (aop C (ev C nt env) σ r.op) fun v => if pureOp r.op = true then wpD C nt K rs hist ob (putA env r.dst v) σ else
          allS (fun σ0 => sameR v σ0 (aop C (ev C nt env) σ0 r.op)) (hist.take f.bk) ∧ wpD C nt K rs hist (if f.fw = 0 then ob else (f.fw, fun σ0 => sameR v σ0 (aop C (ev C nt env) σ0 r.op)) :: ob) (putA env r.dst v) σ)
      (if f.mv = true then oblOK σ ob ∧ wpD C nt K rs (σ :: hist) (oblDec ob) (putA env r.dst .skp) σ else wpD C nt K rs hist ob (putA env r.dst .skp) σ)
section
variable {C : Cx} {nt : Nat} {ops : Array Oper} {fl : List DF}
theorem envAt_congr {val val' : Nat → AV} {env0 : Env} : ∀ k, (∀ i, i < k → val' i = val i) → envAt ops val' env0 k = envAt ops val env0 k
  | 0, _ => rfl
  | k + 1, h => by simp only [envAt]; rw [envAt_congr k fun i hi => h i (by omega), h k (by omega)]
set_option maxHeartbeats 400000 in
theorem wpD_sound {K : Env → Sto → Prop} {env0 : Env} (hlen : fl.length = ops.size) : ∀ (os : List Oper) (fs : List DF) (k : Nat) (hist : List Sto) (ob : Obl) (env : Env) (σ : Sto) (st : Nat → Sto) (val : Nat → AV),
    ops.toList.drop k = os → fl.drop k = fs → st (rank fl k) = σ → env = envAt ops val env0 k → (∀ q, q < rank fl k → hist[rank fl k - 1 - q]? = some (st q)) → k ≤ ops.size →
    wpD C nt K ((os.map (roOf ops)).zip fs) hist ob env σ →
    ∃ st' val', (∀ q, q ≤ rank fl k → st' q = st q) ∧ (∀ i, i < k → val' i = val i) ∧ (∀ p ∈ ob, ∀ q, rank fl k < q → q ≤ rank fl k + p.1 → q ≤ rank fl ops.size → p.2 (st' q)) ∧
      (∀ i o, k ≤ i → ops[i]? = some o → Good C nt ops fl val' st' env0 i o) ∧ K (envAt ops val' env0 ops.size) (st' (rank fl ops.size))
  | [], fs, k, hist, ob, env, σ, st, val, hd, hf, hst, henv, hh, hk, h => by
    have hk2 : k = ops.size := by
      have := List.drop_eq_nil_iff.1 hd
      simp at this; omega
    subst hk2
    refine ⟨st, val, fun _ _ => rfl, fun _ _ => rfl, fun p hp q h1 h2 h3 => by omega, fun i o hi ho => ?_, ?_⟩
    · have := (Array.getElem?_eq_some_iff.1 ho).1; omega
    · have hz : (List.map (roOf ops) []).zip fs = [] := rfl
      rw [hz] at h
      rw [← henv, hst]; exact h
  | o :: os, fs, k, hist, ob, env, σ, st, val, hd, hf, hst, henv, hh, hk, h => by
    have ho : ops[k]? = some o := by
      have h1 : (ops.toList.drop k)[0]? = some o := by rw [hd]; rfl
      rw [List.getElem?_drop, Nat.add_zero, Array.getElem?_toList] at h1
      exact h1
    have hk1 : k < ops.size := (Array.getElem?_eq_some_iff.1 ho).1
    have hd2 : ops.toList.drop (k + 1) = os := by rw [← List.drop_drop, hd]; rfl
    obtain ⟨f, fs', rfl, hfk⟩ : ∃ f fs', fs = f :: fs' ∧ flAt fl k = f := by
      have : fl.drop k = fl[k] :: fl.drop (k + 1) := List.drop_eq_getElem_cons (by omega)
      exact ⟨fl[k], fl.drop (k + 1), hf.symm.trans this, by simp [flAt, List.getD_eq_getElem?_getD, List.getElem?_eq_getElem (show k < fl.length by omega)]⟩
    have hf2 : fl.drop (k + 1) = fs' := by rw [← List.drop_drop, hf]; rfl
    have hrk := rank_succ (fl := fl) k (by omega)
    rw [hfk] at hrk
    have hdst : dstOf ops k = o.dst := by simp [dstOf, ho]
    have hz : (List.map (roOf ops) (o :: os)).zip (f :: fs') = (roOf ops o, f) :: (List.map (roOf ops) os).zip fs' := rfl
    rw [hz] at h
    simp only [wpD] at h
    obtain ⟨hg, hy, hn⟩ := guard_ro h
    have tot : rank fl (k + 1) ≤ rank fl ops.size := rank_mono (by omega)
    -- a moving operation, whatever it did
    have moved : ∀ v σ1, f.mv = true → oblOK σ1 ob → wpD C nt K ((os.map (roOf ops)).zip fs') (σ :: hist) (oblDec ob) (putA env o.dst v) σ1 →
        ∃ st' val', (∀ q, q ≤ rank fl k → st' q = st q) ∧ (∀ i, i < k → val' i = val i) ∧ (∀ p ∈ ob, ∀ q, rank fl k < q → q ≤ rank fl k + p.1 → q ≤ rank fl ops.size → p.2 (st' q)) ∧
          (∀ i o, k + 1 ≤ i → ops[i]? = some o → Good C nt ops fl val' st' env0 i o) ∧ K (envAt ops val' env0 ops.size) (st' (rank fl ops.size)) ∧ st' (rank fl k + 1) = σ1 ∧ val' k = v := by
      intro v σ1 hmv hob hw
      rw [if_pos hmv] at hrk
      obtain ⟨st', val', h1, h2, h3, h4, h5⟩ := wpD_sound (K := K) (env0 := env0) hlen os fs' (k + 1) (σ :: hist) (oblDec ob) (putA env o.dst v) σ1
        (fun q => if q ≤ rank fl k then st q else σ1) (fun i => if i < k then val i else v) hd2 hf2 (if_neg (by omega))
        (by simp only [envAt, hdst, Nat.lt_irrefl, if_false]; rw [henv]; congr 1; exact (envAt_congr k fun i hi => by simp [hi]).symm)
        (fun q hq => by
          rw [hrk] at hq ⊢
          by_cases e : q = rank fl k
          · subst e; simp [hst]
          · have := hh q (by omega)
            have e2 : rank fl k + 1 - 1 - q = (rank fl k - 1 - q) + 1 := by omega
            rw [e2, List.getElem?_cons_succ, this, if_pos (by omega)])
        (by omega) hw
      have hs1 : st' (rank fl k + 1) = σ1 := by rw [h1 _ (by omega), if_neg (by omega)]
      refine ⟨st', val', fun q hq => by rw [h1 q (by omega), if_pos hq], fun i hi => by rw [h2 i (by omega), if_pos hi], fun p hp q g1 g2 g3 => ?_, h4, h5, hs1, by rw [h2 k (by omega), if_neg (by omega)]⟩
      by_cases e : q = rank fl k + 1
      · subst e; rw [hs1]; exact oblOK_at hob hp (by omega)
      · exact h3 _ (oblDec_at hp) q (by omega) (by show q ≤ _ + (p.1 - 1); omega) g3
    have stilled : ∀ v ob', f.mv = false → (∀ p ∈ ob, p ∈ ob') → wpD C nt K ((os.map (roOf ops)).zip fs') hist ob' (putA env o.dst v) σ →
        ∃ st' val', (∀ q, q ≤ rank fl k → st' q = st q) ∧ (∀ i, i < k → val' i = val i) ∧ (∀ p ∈ ob', ∀ q, rank fl k < q → q ≤ rank fl k + p.1 → q ≤ rank fl ops.size → p.2 (st' q)) ∧
          (∀ i o, k + 1 ≤ i → ops[i]? = some o → Good C nt ops fl val' st' env0 i o) ∧ K (envAt ops val' env0 ops.size) (st' (rank fl ops.size)) ∧ val' k = v := by
      intro v ob' hmv hob hw
      rw [if_neg (by simp [hmv])] at hrk
      simp only [Nat.add_zero] at hrk
      obtain ⟨st', val', h1, h2, h3, h4, h5⟩ := wpD_sound (K := K) (env0 := env0) hlen os fs' (k + 1) hist ob' (putA env o.dst v) σ
        st (fun i => if i < k then val i else v) hd2 hf2 (by rw [hrk]; exact hst)
        (by simp only [envAt, hdst, Nat.lt_irrefl, if_false]; rw [henv]; congr 1; exact (envAt_congr k fun i hi => by simp [hi]).symm)
        (by rw [hrk]; exact hh) (by omega) hw
      rw [hrk] at h1 h3
      exact ⟨st', val', h1, fun i hi => by rw [h2 i (by omega), if_pos hi], h3, h4, h5, by rw [h2 k (by omega), if_neg (by omega)]⟩
    cases hgo : goesA (guardA nt ops env o) with
    | true =>
      have h := hy hgo
      by_cases hmv : f.mv = true
      · rw [if_pos hmv] at h
        have hst1 : ∃ v σ1, OpStep C o (ev C nt env) σ v σ1 ∧ (isCall o.op = false → (aop C (ev C nt env) σ o.op).c ∧ v = (aop C (ev C nt env) σ o.op).v ∧ σ1 = (aop C (ev C nt env) σ o.op).s) ∧ oblOK σ1 ob ∧ wpD C nt K ((os.map (roOf ops)).zip fs') (σ :: hist) (oblDec ob) (putA env o.dst v) σ1 := by
          split at h
          · rename_i hcl
            obtain ⟨v, σ1, hs, hk⟩ := h
            exact ⟨v, σ1, hs o rfl, fun hn => absurd ((show isCall o.op = true from hcl).symm.trans hn) (by decide), hk⟩
          · obtain ⟨hc, hk⟩ := h
            exact ⟨_, _, opStep_of_snd aop_sound hc (aop_noDefer hc), fun _ => ⟨hc, rfl, rfl⟩, hk⟩
        obtain ⟨v, σ1, hstep, hao, hob, hw⟩ := hst1
        obtain ⟨st', val', h1, h2, h3, h4, h5, h6, h7⟩ := moved v σ1 hmv hob hw
        have hE : envAt ops val' env0 k = env := by rw [henv]; exact envAt_congr k h2
        refine ⟨st', val', h1, h2, h3, fun i o' hi ho' => ?_, h5⟩
        by_cases e : i = k
        · subst e
          rw [ho] at ho'; cases ho'
          exact ⟨by rw [hE]; exact hg, fun _ => by rw [if_pos (by rw [hfk]; exact hmv), hE, h6, h7, h1 _ (Nat.le_refl _), hst]; exact hstep, fun hn => by (rw [hE, hgo] at hn; cases hn), fun _ _ hic => by rw [hE, h1 _ (Nat.le_refl _), hst, h6, h7]; exact hao hic⟩
        · exact h4 i o' (by omega) ho'
      · have hmv : f.mv = false := by simpa using hmv
        rw [hmv] at h
        simp only [Bool.false_eq_true, if_false] at h
        by_cases hcall : isCall (roOf ops o).op = true
        · rw [if_pos hcall] at h
          obtain ⟨v, hq0, hb, hk⟩ := h
          have hp : ¬ pureOp (roOf ops o).op = true := by rw [call_notPure hcall]; decide
          obtain ⟨st', val', h1, h2, h3, h4, h5, h7⟩ := stilled _ _ hmv (fun p h => by split; exact h; exact List.mem_cons_of_mem _ h) hk
          have hE : envAt ops val' env0 k = env := by rw [henv]; exact envAt_congr k h2
          refine ⟨st', val', h1, h2, fun p hpm => h3 p (by split; exact hpm; exact List.mem_cons_of_mem _ hpm), fun i o' hi ho' => ?_, h5⟩
          by_cases e : i = k
          · subst e
            rw [ho] at ho'; cases ho'
            refine ⟨by rw [hE]; exact hg, fun _ => ?_, fun hn => by (rw [hE, hgo] at hn; cases hn), fun _ hm => by (rw [hfk, hmv] at hm; cases hm)⟩
            rw [if_neg (by rw [hfk, hmv]; decide), hE, h7]
            intro q hq
            have hsame : qcall C (ev C nt env) o.op v (st' q) := by
              rcases hq with hq | ⟨g1, g2, g3⟩
              · exact absurd hq hp
              rw [hfk] at g1 g2
              rcases Nat.lt_trichotomy q (rank fl i) with hlt | heq | hgt
              · have hm := hh q hlt
                rw [h1 q (by omega)]
                refine allS_at hb (List.mem_of_getElem? (i := rank fl i - 1 - q) ?_)
                rw [List.getElem?_take, if_pos (by omega)]; exact hm
              · subst heq; rw [h1 _ (Nat.le_refl _), hst]; exact hq0
              · have hfw : f.fw ≠ 0 := by omega
                exact h3 _ (by rw [if_neg hfw]; exact List.mem_cons_self) q hgt g2 g3
            exact hsame _ rfl
          · exact h4 i o' (by omega) ho'
        rw [if_neg hcall] at h
        obtain ⟨hic, hc, hs, hk⟩ := h
        have hop := hc
        have stepAt : ∀ σ0, (aop C (ev C nt env) σ0 o.op).c → OpStep C o (ev C nt env) σ0 (aop C (ev C nt env) σ0 o.op).v (aop C (ev C nt env) σ0 o.op).s := fun σ0 hc => opStep_of_snd aop_sound hc (aop_noDefer hc)
        by_cases hp : pureOp (roOf ops o).op = true
        · rw [if_pos hp] at hk
          obtain ⟨st', val', h1, h2, h3, h4, h5, h7⟩ := stilled _ ob hmv (fun _ h => h) hk
          have hE : envAt ops val' env0 k = env := by rw [henv]; exact envAt_congr k h2
          refine ⟨st', val', h1, h2, h3, fun i o' hi ho' => ?_, h5⟩
          by_cases e : i = k
          · subst e
            rw [ho] at ho'; cases ho'
            refine ⟨by rw [hE]; exact hg, fun _ => ?_, fun hn => by (rw [hE, hgo] at hn; cases hn), fun _ hm => by (rw [hfk, hmv] at hm; cases hm)⟩
            rw [if_neg (by rw [hfk, hmv]; decide), hE, h7]
            intro q _
            obtain ⟨_, e2⟩ := aop_pure (C := C) (ρ := ev C nt env) hp σ (st' q)
            have := stepAt (st' q) (by rw [show o.op = (roOf ops o).op from rfl, e2]; exact hc)
            rw [show o.op = (roOf ops o).op from rfl, e2] at this
            exact this
          · exact h4 i o' (by omega) ho'
        · rw [if_neg hp] at hk
          obtain ⟨hb, hk⟩ := hk
          obtain ⟨st', val', h1, h2, h3, h4, h5, h7⟩ := stilled _ _ hmv (fun p h => by split; exact h; exact List.mem_cons_of_mem _ h) hk
          have hE : envAt ops val' env0 k = env := by rw [henv]; exact envAt_congr k h2
          refine ⟨st', val', h1, h2, fun p hpm => h3 p (by split; exact hpm; exact List.mem_cons_of_mem _ hpm), fun i o' hi ho' => ?_, h5⟩
          by_cases e : i = k
          · subst e
            rw [ho] at ho'; cases ho'
            refine ⟨by rw [hE]; exact hg, fun _ => ?_, fun hn => by (rw [hE, hgo] at hn; cases hn), fun _ hm => by (rw [hfk, hmv] at hm; cases hm)⟩
            rw [if_neg (by rw [hfk, hmv]; decide), hE, h7]
            intro q hq
            have hsame : sameR (aop C (ev C nt env) σ o.op).v (st' q) (aop C (ev C nt env) (st' q) o.op) := by
              rcases hq with hq | ⟨g1, g2, g3⟩
              · exact absurd hq hp
              rw [hfk] at g1 g2
              rcases Nat.lt_trichotomy q (rank fl i) with hlt | heq | hgt
              · have hm := hh q hlt
                rw [h1 q (by omega)]
                refine allS_at hb (List.mem_of_getElem? (i := rank fl i - 1 - q) ?_)
                rw [List.getElem?_take, if_pos (by omega)]; exact hm
              · subst heq; rw [h1 _ (Nat.le_refl _), hst]; exact ⟨hc, rfl, hs⟩
              · have hfw : f.fw ≠ 0 := by omega
                exact h3 _ (by rw [if_neg hfw]; exact List.mem_cons_self) q hgt g2 g3
            obtain ⟨e1, e2, e3⟩ := hsame
            have := stepAt (st' q) e1
            rw [e2, e3] at this
            exact this
          · exact h4 i o' (by omega) ho'
    | false =>
      have h := hn hgo
      by_cases hmv : f.mv = true
      · rw [if_pos hmv] at h
        obtain ⟨st', val', h1, h2, h3, h4, h5, h6, h7⟩ := moved .skp σ hmv h.1 h.2
        have hE : envAt ops val' env0 k = env := by rw [henv]; exact envAt_congr k h2
        refine ⟨st', val', h1, h2, h3, fun i o' hi ho' => ?_, h5⟩
        by_cases e : i = k
        · subst e
          rw [ho] at ho'; cases ho'
          exact ⟨by rw [hE]; exact hg, fun hy => by (rw [hE, hgo] at hy; cases hy), fun _ => ⟨h7, fun _ => by rw [h6, h1 _ (Nat.le_refl _), hst]⟩, fun hy => by (rw [hE, hgo] at hy; cases hy)⟩
        · exact h4 i o' (by omega) ho'
      · have hmv : f.mv = false := by simpa using hmv
        rw [hmv] at h
        simp only [Bool.false_eq_true, if_false] at h
        obtain ⟨st', val', h1, h2, h3, h4, h5, h7⟩ := stilled .skp ob hmv (fun _ h => h) h
        have hE : envAt ops val' env0 k = env := by rw [henv]; exact envAt_congr k h2
        refine ⟨st', val', h1, h2, h3, fun i o' hi ho' => ?_, h5⟩
        by_cases e : i = k
        · subst e
          rw [ho] at ho'; cases ho'
          exact ⟨by rw [hE]; exact hg, fun hy => by (rw [hE, hgo] at hy; cases hy), fun _ => ⟨h7, fun hm => by (rw [hfk, hmv] at hm; cases hm)⟩, fun hy => by (rw [hE, hgo] at hy; cases hy)⟩
        · exact h4 i o' (by omega) ho'
theorem codeS_draw {ro : Option Nat} {id : Nat} {B : List Nat} {val : Nat → AV} {st : Nat → Sto} {env : Env} (hm : C.P.follows .mixedOrders = true) (h : chk ops fl B = true) (hlen : fl.length = ops.size)
    (good : ∀ i o, ops[i]? = some o → Good C nt ops fl val st env i o) : CodeS C ro nt (.region id ops true) env (st 0) .normal (envAt ops val env ops.size) (st (rank fl ops.size)) := by
  intro w0 G a w hrel cr hcr
  have hi' : Inv C.gl w0 G (st 0) { w with drawn := w.drawn + 1 } := hrel.inv.heap rfl rfl rfl rfl
  refine wpIn_region_any hm ?_
  refine anyD (ws := w) (G0 := G) (σ0 := st 0) (df := a.defers) h hlen good (fun G' a' w' h1 h2 h3 => ⟨rfl, G', [], h1, h2, by simpa using h3, Marks.nil⟩) ops.size _ env 0 G a _ ?_ ?_ ⟨hi', hrel.env⟩ (.heap G _ rfl) rfl
  · have := List.countP_le_length (p := fun i => !(Array.replicate ops.size false).getD i false) (l := List.range ops.size)
    simpa using this
  · exact {
      size := by simp
      cl := fun j i hj hi hL => by simp [Array.getD_eq_getD_getElem?, hj] at hL
      mv := fun i hi hmv => by simp [Array.getD_eq_getD_getElem?, hi]
      le := Nat.zero_le _
      env := fun t => ⟨fun i hi hL => by simp [Array.getD_eq_getD_getElem?, hi] at hL, fun _ => rfl⟩ }
theorem WK.draw {ro : Option Nat} {Q : Exit → Env → Sto → Prop} {env : Env} {σ : Sto} {id : Nat} (fl : List DF) (hm : C.P.follows .mixedOrders = true) (h : chk ops fl (Region.before ops).toList = true)
    (hw : wpD C nt (fun env σ => Q .normal env σ) ((ops.toList.map (roOf ops)).zip fl) [] [] env σ) : WK C ro nt (.oth (.region id ops true)) Q env σ := by
  intro c hc
  have hc' : c = .region id ops true := by
    cases c with
    | region id' ops' d => cases d with
      | false => cases hc
      | true => simp only [toK, K.oth.injEq] at hc; exact hc
    | goto l => simp only [toK, K.oth.injEq] at hc; exact hc
    | _ => first | (cases hc; done) | (simp only [toK, K.oth.injEq] at hc; exact hc)
  subst hc'
  have hlen : fl.length = ops.size := by
    simp only [chk, Bool.and_eq_true, beq_iff_eq] at h; exact h.1
  obtain ⟨st', val', h1, h2, _, h4, h5⟩ := wpD_sound (C := C) (nt := nt) (K := fun env σ => Q .normal env σ) (env0 := env) hlen ops.toList fl 0 [] [] env σ (fun _ => σ) (fun _ => .undef) rfl rfl rfl rfl (fun q hq => by simp [rank] at hq) (Nat.zero_le _) hw
  have hs0 : st' 0 = σ := h1 0 (Nat.zero_le _)
  have := codeS_draw (ro := ro) (id := id) (env := env) hm h hlen (fun i o ho => h4 i o (Nat.zero_le _) ho)
  rw [hs0] at this
  exact ⟨_, _, _, this, h5⟩
end
def stillOp : Op → Bool
  | .load .. | .indexAddr .. | .index .. | .convert .. | .slice .. | .lookup .. => true
  | .call ⟨.builtin .len, _, _⟩ | .call ⟨.builtin .max, _, _⟩ | .call ⟨.builtin .min, _, _⟩ => true
  | op => pureOp op
theorem lenA_s {C : Cx} {σ : Sto} {t : TypeId} {x : AV} : (lenA C σ t x).s = σ := by unfold lenA; split <;> first | rfl | (split <;> rfl) | (split <;> split <;> rfl)
theorem mxA_s {σ : Sto} {x y : AV} : (mxA σ x y).s = σ := by unfold mxA; split <;> rfl
theorem mnA_s {σ : Sto} {x y : AV} : (mnA σ x y).s = σ := by unfold mnA; split <;> rfl
theorem aop_still {C : Cx} {ρ : Operand → AV} {op : Op} {σ : Sto} (h : stillOp op = true) : (aop C ρ σ op).s = σ := by
  by_cases hp : pureOp op = true
  · exact (aop_pure hp σ σ).1
  · cases op <;> first | exact absurd h hp | skip
    case load t x => simp only [aop, loadA, bad]; repeat (first | rfl | split)
    case indexAddr t x ix => simp only [aop, idxA, bad]; repeat (first | rfl | split)
    case index t x ix => simp only [aop, ixvA, bad]; repeat (first | rfl | split)
    case convert t x ix => simp only [aop, cnvA, bad]; repeat (first | rfl | split)
    case slice t x lo hi mx => simp only [aop, slcA, bad]; repeat (first | rfl | split)
    case lookup t x k ok => simp only [aop, lkpA, bad]; repeat (first | rfl | split)
    case call c =>
      obtain ⟨f, as, ts⟩ := c
      cases f with
      | builtin b =>
        simp only [aop]
        unfold bltA
        split
        · exact lenA_s
        · exact mxA_s
        · exact mnA_s
        · exact absurd h (by intro h; cases h)
        · rfl
      | _ => exact absurd h hp
theorem wpD_still {C : Cx} {nt : Nat} {K : Env → Sto → Prop} : ∀ (rs : List RO) (env : Env) (σ : Sto), rs.all (fun r => stillOp r.op && !isCall r.op) = true → wpr C nt rs K env σ → wpD C nt K (rs.map fun r => (r, ⟨false, 0, 0⟩)) [] [] env σ
  | [], env, σ, _, h => h
  | r :: rs, env, σ, hs, h => by
    simp only [List.all_cons, Bool.and_eq_true, Bool.not_eq_true'] at hs
    obtain ⟨⟨h1, h2⟩, h3⟩ := hs
    have h3 : rs.all (fun r => stillOp r.op && !isCall r.op) = true := h3
    have key : ∀ yes no yes' no', (yes → yes') → (no → no') → gdR C nt r.gd env yes no → gdR C nt r.gd env yes' no' := by
      intro yes no yes' no' hy hn hg
      unfold gdR at hg ⊢
      split
      · rename_i e; rw [e] at hg; exact hy hg
      · rename_i x w e
        rw [e] at hg
        refine ⟨hg.1, ?_⟩
        have hg := hg.2
        by_cases hb : ((ev C nt env x).goes w) = true
        · rw [if_pos hb] at hg ⊢; exact hy hg
        · rw [if_neg hb] at hg ⊢; exact hn hg
    simp only [wpr, h2, Bool.false_eq_true, if_false] at h
    simp only [List.map_cons, wpD, Bool.false_eq_true, if_false, h2, true_and, List.take_nil, if_true, allS]
    refine key _ _ _ _ (fun hy => ?_) (fun hn => wpD_still rs _ _ h3 hn) h
    obtain ⟨hc, hk⟩ := hy
    have hst := aop_still (C := C) (ρ := ev C nt env) (σ := σ) h1
    rw [hst] at hk
    refine ⟨hc, hst, ?_⟩
    split
    · exact wpD_still rs _ _ h3 hk
    · exact wpD_still rs _ _ h3 hk
theorem WK.draw0 {C : Cx} {nt : Nat} {ro : Option Nat} {Q : Exit → Env → Sto → Prop} {env : Env} {σ : Sto} {id : Nat} {ops : Array Oper} (hm : C.P.follows .mixedOrders = true)
    (h : (ops.toList.all (fun o => stillOp o.op && !isCall o.op) && chk ops (ops.toList.map fun _ => ⟨false, 0, 0⟩) (Region.before ops).toList) = true)
    (hw : wpr C nt (ops.toList.map (roOf ops)) (fun env σ => Q .normal env σ) env σ) : WK C ro nt (.oth (.region id ops true)) Q env σ := by
  simp only [Bool.and_eq_true] at h
  refine WK.draw _ hm h.2 ?_
  have e : (ops.toList.map (roOf ops)).zip (ops.toList.map fun _ => (⟨false, 0, 0⟩ : DF)) = (ops.toList.map (roOf ops)).map fun r => (r, ⟨false, 0, 0⟩) := by
    generalize ops.toList = l
    induction l with
    | nil => rfl
    | cons x l ih => simp only [List.map_cons, List.zip_cons_cons, ih]
  rw [e]
  refine wpD_still _ _ _ ?_ hw
  rw [List.all_map]
  exact h.1
section
variable {C : Cx} {nt : Nat} {K : Env → Sto → Prop} {d : Option Nat} {op : Op} {bk fw : Nat} {rs : List (RO × DF)} {hist : List Sto} {ob : Obl} {env : Env} {σ : Sto}
theorem wpD_nil : wpD C nt K [] hist ob env σ = K env σ := (rfl)
def callD (C : Cx) (nt : Nat) (d : Option Nat) (cl : Call) (rs : List (RO × DF)) (hist : List Sto) (ob : Obl) (K : Env → Sto → Prop) (env : Env) (σ : Sto) : Prop :=
  callR C (ev C nt env) σ (.call cl) (fun v σ1 => oblOK σ1 ob ∧ wpD C nt K rs (σ :: hist) (oblDec ob) (putA env d v) σ1)
def movedD (C : Cx) (nt : Nat) (d : Option Nat) (r : AR) (rs : List (RO × DF)) (hist : List Sto) (ob : Obl) (K : Env → Sto → Prop) (env : Env) (σ : Sto) : Prop :=
  moveR r fun v σ1 => oblOK σ1 ob ∧ wpD C nt K rs (σ :: hist) (oblDec ob) (putA env d v) σ1
theorem movedD_eq {c : Prop} {v : AV} {s : Sto} : movedD C nt d ⟨c, v, s⟩ rs hist ob K env σ = (c ∧ oblOK s ob ∧ wpD C nt K rs (σ :: hist) (oblDec ob) (putA env d v) s) := (rfl)
def pureD (C : Cx) (nt : Nat) (d : Option Nat) (r : AR) (rs : List (RO × DF)) (hist : List Sto) (ob : Obl) (K : Env → Sto → Prop) (env : Env) (σ : Sto) : Prop :=
  r.c ∧ wpD C nt K rs hist ob (putA env d r.v) σ
theorem pureD_eq {c : Prop} {v : AV} {s : Sto} : pureD C nt d ⟨c, v, s⟩ rs hist ob K env σ = (c ∧ wpD C nt K rs hist ob (putA env d v) σ) := (rfl)
def readD (C : Cx) (nt : Nat) (d : Option Nat) (op : Op) (bk fw : Nat) (r : AR) (rs : List (RO × DF)) (hist : List Sto) (ob : Obl) (K : Env → Sto → Prop) (env : Env) (σ : Sto) : Prop :=
  r.c ∧ r.s = σ ∧ allS (fun σ0 => sameR r.v σ0 (aop C (ev C nt env) σ0 op)) (hist.take bk) ∧ wpD C nt K rs hist (if fw = 0 then ob else (fw, fun σ0 => sameR r.v σ0 (aop C (ev C nt env) σ0 op)) :: ob) (putA env d r.v) σ
theorem readD_eq {c : Prop} {v : AV} {s : Sto} : readD C nt d op bk fw ⟨c, v, s⟩ rs hist ob K env σ = (c ∧ s = σ ∧ allS (fun σ0 => sameR v σ0 (aop C (ev C nt env) σ0 op)) (hist.take bk) ∧ wpD C nt K rs hist (if fw = 0 then ob else (fw, fun σ0 => sameR v σ0 (aop C (ev C nt env) σ0 op)) :: ob) (putA env d v) σ) := (rfl)
theorem sameR_eq {v v' : AV} {σ s : Sto} {c : Prop} : sameR v σ ⟨c, v', s⟩ = (c ∧ v' = v ∧ s = σ) := (rfl)
def gdD (C : Cx) (nt : Nat) (g : AV) (want : Bool) (d : Option Nat) (op : Op) (f : DF) (rs : List (RO × DF)) (hist : List Sto) (ob : Obl) (K : Env → Sto → Prop) (env : Env) (σ : Sto) : Prop :=
  g.isGd = true ∧ if (g.goes want) = true then wpD C nt K ((⟨d, op, none⟩, f) :: rs) hist ob env σ
    else (if f.mv = true then oblOK σ ob ∧ wpD C nt K rs (σ :: hist) (oblDec ob) (putA env d .skp) σ else wpD C nt K rs hist ob (putA env d .skp) σ)
theorem wpD_gd {x : Operand} {w : Bool} {f : DF} : wpD C nt K ((⟨d, op, some (x, w)⟩, f) :: rs) hist ob env σ = gdD C nt (ev C nt env x) w d op f rs hist ob K env σ := (rfl)
theorem gdD_tt {f : DF} : gdD C nt (.bool true) true d op f rs hist ob K env σ = wpD C nt K ((⟨d, op, none⟩, f) :: rs) hist ob env σ := by simp [gdD, AV.isGd, AV.goes]
theorem gdD_ff {f : DF} : gdD C nt (.bool false) false d op f rs hist ob K env σ = wpD C nt K ((⟨d, op, none⟩, f) :: rs) hist ob env σ := by simp [gdD, AV.isGd, AV.goes]
theorem gdD_tf {bk fw : Nat} : gdD C nt (.bool true) false d op ⟨false, bk, fw⟩ rs hist ob K env σ = wpD C nt K rs hist ob (putA env d .skp) σ := by simp [gdD, AV.isGd, AV.goes]
theorem gdD_ft {bk fw : Nat} : gdD C nt (.bool false) true d op ⟨false, bk, fw⟩ rs hist ob K env σ = wpD C nt K rs hist ob (putA env d .skp) σ := by simp [gdD, AV.isGd, AV.goes]
theorem gdD_tfm {bk fw : Nat} : gdD C nt (.bool true) false d op ⟨true, bk, fw⟩ rs hist ob K env σ = (oblOK σ ob ∧ wpD C nt K rs (σ :: hist) (oblDec ob) (putA env d .skp) σ) := by simp [gdD, AV.isGd, AV.goes]
theorem gdD_ftm {bk fw : Nat} : gdD C nt (.bool false) true d op ⟨true, bk, fw⟩ rs hist ob K env σ = (oblOK σ ob ∧ wpD C nt K rs (σ :: hist) (oblDec ob) (putA env d .skp) σ) := by simp [gdD, AV.isGd, AV.goes]
theorem gdD_skp {bk fw : Nat} {w : Bool} : gdD C nt (.tup []) w d op ⟨false, bk, fw⟩ rs hist ob K env σ = wpD C nt K rs hist ob (putA env d .skp) σ := by simp [gdD, AV.isGd, AV.goes]
theorem gdD_skpm {bk fw : Nat} {w : Bool} : gdD C nt (.tup []) w d op ⟨true, bk, fw⟩ rs hist ob K env σ = (oblOK σ ob ∧ wpD C nt K rs (σ :: hist) (oblDec ob) (putA env d .skp) σ) := by simp [gdD, AV.isGd, AV.goes]
theorem wpD_call {f : Operand} {as : Array Operand} {ts : Array TypeId} : wpD C nt K ((⟨d, .call ⟨.value f, as, ts⟩, none⟩, ⟨true, bk, fw⟩) :: rs) hist ob env σ = callD C nt d ⟨.value f, as, ts⟩ rs hist ob K env σ := (rfl)
def qcallD (C : Cx) (nt : Nat) (d : Option Nat) (cl : Call) (bk fw : Nat) (rs : List (RO × DF)) (hist : List Sto) (ob : Obl) (K : Env → Sto → Prop) (env : Env) (σ : Sto) : Prop :=
  ∃ v, qcall C (ev C nt env) (.call cl) v σ ∧ allS (qcall C (ev C nt env) (.call cl) v) (hist.take bk) ∧ wpD C nt K rs hist (if fw = 0 then ob else (fw, qcall C (ev C nt env) (.call cl) v) :: ob) (putA env d v) σ
theorem wpD_qcall {f : Operand} {as : Array Operand} {ts : Array TypeId} : wpD C nt K ((⟨d, .call ⟨.value f, as, ts⟩, none⟩, ⟨false, bk, fw⟩) :: rs) hist ob env σ = qcallD C nt d ⟨.value f, as, ts⟩ bk fw rs hist ob K env σ := by
  simp only [wpD, gdR, isCall, if_true, Bool.false_eq_true, if_false, qcallD]
theorem wpD_mv (h : isCall op = false) : wpD C nt K ((⟨d, op, none⟩, ⟨true, bk, fw⟩) :: rs) hist ob env σ = movedD C nt d (aop C (ev C nt env) σ op) rs hist ob K env σ := by
  simp only [wpD, gdR, h, if_true, Bool.false_eq_true, if_false]; rfl
theorem wpD_pure (h : isCall op = false) (hp : pureOp op = true) : wpD C nt K ((⟨d, op, none⟩, ⟨false, bk, fw⟩) :: rs) hist ob env σ = pureD C nt d (aop C (ev C nt env) σ op) rs hist ob K env σ := by
  simp only [wpD, gdR, h, hp, if_true, Bool.false_eq_true, if_false, true_and, stillR, pureD]
  exact propext ⟨fun h => ⟨h.1, h.2.2⟩, fun h => ⟨h.1, (aop_pure hp σ σ).1, h.2⟩⟩
theorem wpD_read (h : isCall op = false) (hp : pureOp op = false) : wpD C nt K ((⟨d, op, none⟩, ⟨false, bk, fw⟩) :: rs) hist ob env σ = readD C nt d op bk fw (aop C (ev C nt env) σ op) rs hist ob K env σ := by
  simp only [wpD, gdR, h, hp, Bool.false_eq_true, if_false, true_and, stillR, readD]
theorem wpD_pmove (x : Operand) : wpD C nt K ((⟨d, .move x, none⟩, ⟨false, bk, fw⟩) :: rs) hist ob env σ = pureD C nt d (aop C (ev C nt env) σ (.move x)) rs hist ob K env σ := wpD_pure rfl rfl
theorem wpD_passign (x : Operand) : wpD C nt K ((⟨d, .assign x, none⟩, ⟨false, bk, fw⟩) :: rs) hist ob env σ = pureD C nt d (aop C (ev C nt env) σ (.assign x)) rs hist ob K env σ := wpD_pure rfl rfl
theorem wpD_ppick (c x y : Operand) : wpD C nt K ((⟨d, .pick c x y, none⟩, ⟨false, bk, fw⟩) :: rs) hist ob env σ = pureD C nt d (aop C (ev C nt env) σ (.pick c x y)) rs hist ob K env σ := wpD_pure rfl rfl
theorem wpD_pfieldAddr (t : TypeId) (x : Operand) (f : Nat) : wpD C nt K ((⟨d, .fieldAddr t x f, none⟩, ⟨false, bk, fw⟩) :: rs) hist ob env σ = pureD C nt d (aop C (ev C nt env) σ (.fieldAddr t x f)) rs hist ob K env σ := wpD_pure rfl rfl
theorem wpD_pfield (t : TypeId) (x : Operand) (f : Nat) : wpD C nt K ((⟨d, .field t x f, none⟩, ⟨false, bk, fw⟩) :: rs) hist ob env σ = pureD C nt d (aop C (ev C nt env) σ (.field t x f)) rs hist ob K env σ := wpD_pure rfl rfl
theorem wpD_pextract (x : Operand) (k : Nat) : wpD C nt K ((⟨d, .extract x k, none⟩, ⟨false, bk, fw⟩) :: rs) hist ob env σ = pureD C nt d (aop C (ev C nt env) σ (.extract x k)) rs hist ob K env σ := wpD_pure rfl rfl
theorem wpD_pbinOp (op : BinOp) (t : TypeId) (x y : Operand) (t' : TypeId) : wpD C nt K ((⟨d, .binOp op t x y t', none⟩, ⟨false, bk, fw⟩) :: rs) hist ob env σ = pureD C nt d (aop C (ev C nt env) σ (.binOp op t x y t')) rs hist ob K env σ := wpD_pure rfl rfl
theorem wpD_punOp (op : UnOp) (t : TypeId) (x : Operand) : wpD C nt K ((⟨d, .unOp op t x, none⟩, ⟨false, bk, fw⟩) :: rs) hist ob env σ = pureD C nt d (aop C (ev C nt env) σ (.unOp op t x)) rs hist ob K env σ := wpD_pure rfl rfl
theorem wpD_pnilCheck (x : Operand) : wpD C nt K ((⟨d, .nilCheck x, none⟩, ⟨false, bk, fw⟩) :: rs) hist ob env σ = pureD C nt d (aop C (ev C nt env) σ (.nilCheck x)) rs hist ob K env σ := wpD_pure rfl rfl
theorem wpD_pmakeFunc (f : Fn) (first cap : Array Operand) : wpD C nt K ((⟨d, .makeFunc f first cap, none⟩, ⟨false, bk, fw⟩) :: rs) hist ob env σ = pureD C nt d (aop C (ev C nt env) σ (.makeFunc f first cap)) rs hist ob K env σ := wpD_pure rfl rfl
theorem wpD_pmakeInterface (t : TypeId) (x : Operand) : wpD C nt K ((⟨d, .makeInterface t x, none⟩, ⟨false, bk, fw⟩) :: rs) hist ob env σ = pureD C nt d (aop C (ev C nt env) σ (.makeInterface t x)) rs hist ob K env σ := wpD_pure rfl rfl
theorem wpD_pbuild (t : TypeId) (ps : Array (Nat × Operand)) : wpD C nt K ((⟨d, .build t ps, none⟩, ⟨false, bk, fw⟩) :: rs) hist ob env σ = pureD C nt d (aop C (ev C nt env) σ (.build t ps)) rs hist ob K env σ := wpD_pure rfl rfl
theorem wpD_pbuildSlice (t : TypeId) (n : Nat) (ps : Array (Nat × Operand)) : wpD C nt K ((⟨d, .buildSlice t n ps, none⟩, ⟨false, bk, fw⟩) :: rs) hist ob env σ = pureD C nt d (aop C (ev C nt env) σ (.buildSlice t n ps)) rs hist ob K env σ := wpD_pure rfl rfl
theorem wpD_rload (t : TypeId) (x : Operand) : wpD C nt K ((⟨d, .load t x, none⟩, ⟨false, bk, fw⟩) :: rs) hist ob env σ = readD C nt d (.load t x) bk fw (aop C (ev C nt env) σ (.load t x)) rs hist ob K env σ := wpD_read rfl rfl
theorem wpD_rindexAddr (t : TypeId) (x ix : Operand) : wpD C nt K ((⟨d, .indexAddr t x ix, none⟩, ⟨false, bk, fw⟩) :: rs) hist ob env σ = readD C nt d (.indexAddr t x ix) bk fw (aop C (ev C nt env) σ (.indexAddr t x ix)) rs hist ob K env σ := wpD_read rfl rfl
theorem wpD_rindex (t : TypeId) (x ix : Operand) : wpD C nt K ((⟨d, .index t x ix, none⟩, ⟨false, bk, fw⟩) :: rs) hist ob env σ = readD C nt d (.index t x ix) bk fw (aop C (ev C nt env) σ (.index t x ix)) rs hist ob K env σ := wpD_read rfl rfl
theorem wpD_rconvert (s' d' : TypeId) (x : Operand) : wpD C nt K ((⟨d, .convert s' d' x, none⟩, ⟨false, bk, fw⟩) :: rs) hist ob env σ = readD C nt d (.convert s' d' x) bk fw (aop C (ev C nt env) σ (.convert s' d' x)) rs hist ob K env σ := wpD_read rfl rfl
theorem wpD_rslice (t : TypeId) (x : Operand) (lo hi : Option Operand) : wpD C nt K ((⟨d, .slice t x lo hi none, none⟩, ⟨false, bk, fw⟩) :: rs) hist ob env σ = readD C nt d (.slice t x lo hi none) bk fw (aop C (ev C nt env) σ (.slice t x lo hi none)) rs hist ob K env σ := wpD_read rfl rfl
theorem wpD_rlookup (t : TypeId) (x k : Operand) (ok : Bool) : wpD C nt K ((⟨d, .lookup t x k ok, none⟩, ⟨false, bk, fw⟩) :: rs) hist ob env σ = readD C nt d (.lookup t x k ok) bk fw (aop C (ev C nt env) σ (.lookup t x k ok)) rs hist ob K env σ := wpD_read rfl rfl
theorem wpD_mmakeMap (t : TypeId) (r : Option Operand) : wpD C nt K ((⟨d, .makeMap t r, none⟩, ⟨true, bk, fw⟩) :: rs) hist ob env σ = movedD C nt d (aop C (ev C nt env) σ (.makeMap t r)) rs hist ob K env σ := wpD_mv rfl
theorem wpD_mmapUpdate (t : TypeId) (x k y : Operand) : wpD C nt K ((⟨d, .mapUpdate t x k y, none⟩, ⟨true, bk, fw⟩) :: rs) hist ob env σ = movedD C nt d (aop C (ev C nt env) σ (.mapUpdate t x k y)) rs hist ob K env σ := wpD_mv rfl
theorem wpD_minsert (t : TypeId) (x k y : Operand) : wpD C nt K ((⟨d, .insert t x k y, none⟩, ⟨true, bk, fw⟩) :: rs) hist ob env σ = movedD C nt d (aop C (ev C nt env) σ (.insert t x k y)) rs hist ob K env σ := wpD_mv rfl
theorem wpD_rcall_len (as : Array Operand) (ts : Array TypeId) : wpD C nt K ((⟨d, .call ⟨.builtin .len, as, ts⟩, none⟩, ⟨false, bk, fw⟩) :: rs) hist ob env σ = readD C nt d (.call ⟨.builtin .len, as, ts⟩) bk fw (aop C (ev C nt env) σ (.call ⟨.builtin .len, as, ts⟩)) rs hist ob K env σ := wpD_read rfl rfl
theorem wpD_rcall_max (as : Array Operand) (ts : Array TypeId) : wpD C nt K ((⟨d, .call ⟨.builtin .max, as, ts⟩, none⟩, ⟨false, bk, fw⟩) :: rs) hist ob env σ = readD C nt d (.call ⟨.builtin .max, as, ts⟩) bk fw (aop C (ev C nt env) σ (.call ⟨.builtin .max, as, ts⟩)) rs hist ob K env σ := wpD_read rfl rfl
theorem wpD_rcall_min (as : Array Operand) (ts : Array TypeId) : wpD C nt K ((⟨d, .call ⟨.builtin .min, as, ts⟩, none⟩, ⟨false, bk, fw⟩) :: rs) hist ob env σ = readD C nt d (.call ⟨.builtin .min, as, ts⟩) bk fw (aop C (ev C nt env) σ (.call ⟨.builtin .min, as, ts⟩)) rs hist ob K env σ := wpD_read rfl rfl
theorem wpD_rcall_cap (as : Array Operand) (ts : Array TypeId) : wpD C nt K ((⟨d, .call ⟨.builtin .cap, as, ts⟩, none⟩, ⟨false, bk, fw⟩) :: rs) hist ob env σ = readD C nt d (.call ⟨.builtin .cap, as, ts⟩) bk fw (aop C (ev C nt env) σ (.call ⟨.builtin .cap, as, ts⟩)) rs hist ob K env σ := wpD_read rfl rfl
theorem wpD_malloc (t : TypeId) : wpD C nt K ((⟨d, .alloc t, none⟩, ⟨true, bk, fw⟩) :: rs) hist ob env σ = movedD C nt d (aop C (ev C nt env) σ (.alloc t)) rs hist ob K env σ := wpD_mv rfl
theorem wpD_mbox (t : TypeId) (x : Operand) : wpD C nt K ((⟨d, .box t x, none⟩, ⟨true, bk, fw⟩) :: rs) hist ob env σ = movedD C nt d (aop C (ev C nt env) σ (.box t x)) rs hist ob K env σ := wpD_mv rfl
theorem wpD_mstore (t : TypeId) (x y : Operand) : wpD C nt K ((⟨d, .store t x y, none⟩, ⟨true, bk, fw⟩) :: rs) hist ob env σ = movedD C nt d (aop C (ev C nt env) σ (.store t x y)) rs hist ob K env σ := wpD_mv rfl
theorem wpD_mmakeSlice (t : TypeId) (x y : Operand) : wpD C nt K ((⟨d, .makeSlice t x y, none⟩, ⟨true, bk, fw⟩) :: rs) hist ob env σ = movedD C nt d (aop C (ev C nt env) σ (.makeSlice t x y)) rs hist ob K env σ := wpD_mv rfl
def appD (C : Cx) (nt : Nat) (d : Option Nat) (as : Array Operand) (ts : Array TypeId) (rs : List (RO × DF)) (hist : List Sto) (ob : Obl) (K : Env → Sto → Prop) (env : Env) (σ : Sto) : Prop :=
  callR C (ev C nt env) σ (.call ⟨.builtin .append, as, ts⟩) (fun v σ1 => oblOK σ1 ob ∧ wpD C nt K rs (σ :: hist) (oblDec ob) (putA env d v) σ1)
theorem wpD_mapp {bk fw : Nat} (as : Array Operand) (ts : Array TypeId) : wpD C nt K ((⟨d, .call ⟨.builtin .append, as, ts⟩, none⟩, ⟨true, bk, fw⟩) :: rs) hist ob env σ = appD C nt d as ts rs hist ob K env σ := (rfl)
end
attribute [go_sem] wpD_qcall wpD_rlookup wpD_mmakeMap wpD_mmapUpdate wpD_minsert
attribute [go_sem] aop movedD_eq pureD_eq readD_eq sameR_eq wpD_nil wpD_call wpD_gd gdD_tt gdD_ff gdD_tf gdD_ft gdD_tfm gdD_ftm gdD_skp gdD_skpm oblOK oblDec allS wpD_pmove wpD_passign wpD_ppick wpD_pfieldAddr wpD_pfield wpD_pextract wpD_pbinOp wpD_punOp wpD_pnilCheck wpD_pmakeFunc wpD_pmakeInterface wpD_pbuild wpD_pbuildSlice wpD_rload wpD_rindexAddr wpD_rindex wpD_rconvert wpD_rslice wpD_rcall_len wpD_rcall_max wpD_rcall_min wpD_rcall_cap wpD_malloc wpD_mbox wpD_mstore wpD_mmakeSlice wpD_mapp
attribute [go_sem] List.zip_cons_cons List.zip_nil_right List.zip_nil_left
end Go.Lg
/- Lg, part M: loops over functions. -/
namespace Go.Lg
open Go.RowKit
theorem Inv.other {gl : Nat → List AV} {w0 w : World} {G : Gh} {σ : Sto} (h : Inv gl w0 G σ w) (ob : Obj) : Inv gl w0 G σ (w.alloc ob) where
  below := h.below.alloc h.base_le _
  imm := fun b o v hv => by rw [World.cell?_alloc_lt (h := h.imm_lt hv)]; exact h.imm b o v hv
  gl := h.gl
  live := h.live
  obj := fun id o B h1 h2 => ⟨(h.obj id o B h1 h2).1, (h.obj id o B h1 h2).2.keep (.refl G) (Below.heap_alloc _ _ _ (h.obj id o B h1 h2).2.lt) fun _ => rfl⟩
  fresh := h.fresh
  inj := h.inj
  has := h.has
  freshT := h.freshT
  tok := h.tok.step rfl (fun _ _ _ x => x) (fun id b hb => ⟨Below.heap_alloc _ _ _ (h.tok.lt hb), fun _ => rfl⟩) h.tok.oj
theorem Ext.other {w : World} (G : Gh) (σ : Sto) (ob : Obj) : Ext G σ w G σ (w.alloc ob) where
  le := .refl G
  size := by simp
  keep := fun b hb ho => ⟨Below.heap_alloc _ _ _ hb, fun _ => rfl, ho⟩
  next := Nat.le_refl _
theorem Inv.loopAt {gl : Nat → List AV} {w0 w : World} {G : Gh} {σ : Sto} (h : Inv gl w0 G σ w) {id : Nat} {L : LoopI} {st : LoopState} {pe : Option Code} {B : Blk} (hs : σ.get id = some (.loop L st pe)) (hj : G.j id = some B) :
    ∃ r : Loop, w.heap[B.b]? = some (.loop r) ∧ r.state = st ∧ r.pending = pe ∧ r.params = L.ps ∧ r.assign = L.assign ∧ r.body = L.body ∧ EnvRep G L.nt L.env r.tmps ∧
      ∀ st' pe', Inv gl w0 G (σ.set id (.loop L st' pe')) (w.putObj B.b (.loop { r with state := st', pending := pe' })) ∧ Ext G σ w G (σ.set id (.loop L st' pe')) (w.putObj B.b (.loop { r with state := st', pending := pe' })) := by
  obtain ⟨hB, r, h1, h2, h3, h4, h5, h6, h7, h8, h9⟩ := h.obj id _ B hs hj
  refine ⟨r, h1, h2, h3, h4, h5, h6, ⟨h7, h8⟩, fun st' pe' => ⟨?_, ?_⟩⟩
  · refine h.set id _ _ B hs hj rfl rfl rfl (by simp) (fun b hb => World.putObj_heap_other hb) (fun k v hv => by rw [h9 k] at hv; cases hv) ?_
    exact ⟨_, World.putObj_heap_same (Array.getElem?_eq_some_iff.1 h1).1, rfl, rfl, h4, h5, h6, h7, h8, h9⟩
  · exact .set id _ _ B hs hj (by simp) (fun b hb => World.putObj_heap_other hb)
def jumpC : Exit → Option (Option Code)
  | .normal => some none
  | .ret => some (some .ret)
  | .exit id => some (some (.exit id))
  | .goto l => some (some (.goto l))
  | _ => none
def bindP (env : Env) : List Tmp → List AV → Env
  | p :: ps, x :: xs => bindP (upd env p x) ps xs
  | _, _ => env
theorem bindP_rep {G : Gh} {nt : Nat} : ∀ (ps : List Tmp) (xs : List AV) (vs : List Value) (env : Env) (tmps : Array Value), EnvRep G nt env tmps → xs.length = ps.length → vs.length = ps.length →
    (∀ (i : Nat) (x : AV) (v : Value), xs[i]? = some x → vs[i]? = some v → Rep G x v) → EnvRep G nt (bindP env ps xs) ((ps.zip vs).foldl (fun t (p : Tmp × Value) => t.setIfInBounds p.1 p.2) tmps)
  | [], _, _, env, tmps, h, _, _, _ => by simpa [bindP] using h
  | p :: ps, [], _, _, _, _, h, _, _ => by simp at h
  | p :: ps, x :: xs, [], _, _, _, _, h, _ => by simp at h
  | p :: ps, x :: xs, v :: vs, env, tmps, h, h1, h2, h3 => by
    simp only [bindP, List.zip_cons_cons, List.foldl_cons]
    refine bindP_rep ps xs vs _ _ ?_ (by simpa using h1) (by simpa using h2) fun i x v hx hv => h3 (i + 1) x v (by simpa using hx) (by simpa using hv)
    exact EnvRep.put (a := { tmps := tmps, defers := [] }) h (h3 0 x v rfl rfl) (some p)
section
variable {C : Cx} {ρ : Operand → AV} {σ : Sto} {o : Oper}
theorem opStep_yield {f : Operand} {as : Array Operand} {ts : Array TypeId} {id : Nat} {L : LoopI} {pe0 pe1 pe2 j : Option Code} {env1 env2 : Env} {σ1 σ2 : Sto} {e : Exit} (ho : o.op = .call { callee := .value f, args := as, argTypes := ts })
    (hf : ρ f = .yld id) (hs : σ.get id = some (.loop L .ready pe0)) (hps : as.size = L.ps.size)
    (ha : CodeS C (some id) L.nt L.assign (bindP L.env L.ps.toList (as.toList.map ρ)) σ .normal env1 σ1) (h1 : σ1.get id = some (.loop L .ready pe1))
    (hbd : CodeS C (some id) L.nt L.body env1 (σ1.set id (.loop L .busy pe1)) e env2 σ2) (h2 : σ2.get id = some (.loop L .busy pe2)) (hj : jumpC e = some j) :
    OpStep C o ρ σ (.bool j.isNone) (σ2.set id (.loop L (if j.isNone then .ready else .done) j)) := by
  intro ro w0 G a w hi hx next Q hn
  refine ⟨fun _ _ => trivial, ?_⟩
  rw [Oper.semAt_eq _ _ _ (fun c hc => by rw [ho] at hc; cases hc)]
  have hp := hx f (by simp [ho, Op.operands, Call.operands])
  rw [hf] at hp
  obtain ⟨B, hj0, hv⟩ : ∃ B, G.j id = some B ∧ a.eval f = .func (.yield B.b) #[] #[] := by
    generalize a.eval f = v at hp
    cases hp with
    | yld _ B hj => exact ⟨B, hj, rfl⟩
  obtain ⟨r, g1, g2, g3, g4, g5, g6, g7, _⟩ := hi.loopAt hs hj0
  have hrun : (execOp a.eval o).run C.P w = .ok (.round B.b r.fn ((r.params.zip (as.map a.eval)).foldl (fun tmps (t, a) => tmps.setIfInBounds t a) r.tmps) r.assign r.body) w := by
    have := run_yield (P := C.P) (args := as.map a.eval) g1 (by simp [g4, hps])
    simp [execOp, ho, resolve, hv, Deferred.ofValue, invoke, this]
  rw [hrun]
  refine ⟨(fun h => by cases h), ?_⟩
  have henv : EnvRep G L.nt (bindP L.env L.ps.toList (as.toList.map ρ)) ((r.params.zip (as.map a.eval)).foldl (fun tmps (t, a) => tmps.setIfInBounds t a) r.tmps) := by
    have e : (r.params.zip (as.map a.eval)).foldl (fun tmps (t, a) => tmps.setIfInBounds t a) r.tmps = (L.ps.toList.zip (as.toList.map a.eval)).foldl (fun t (p : Tmp × Value) => t.setIfInBounds p.1 p.2) r.tmps := by
      rw [← Array.foldl_toList, Array.toList_zip, g4, Array.toList_map]
    rw [e]
    refine bindP_rep _ _ _ _ _ g7 (by simp [hps]) (by simp [hps]) fun i x v hx' hv' => ?_
    simp only [List.getElem?_map, Array.getElem?_toList] at hx' hv'
    cases hy : as[i]? with
    | none => simp [hy] at hx'
    | some y =>
      simp only [hy, Option.map_some, Option.some.injEq] at hx' hv'
      subst hx'; subst hv'
      exact hx y (by simp only [ho, Op.operands, Call.operands]; rw [Array.toList_append]; exact List.mem_append_right _ (Array.mem_toList_iff.2 (Array.mem_of_getElem? hy)))
  have hR : RoundIn (FW ro) (0 - 1) C.P B.b r.fn ((r.params.zip (as.map a.eval)).foldl (fun tmps (t, a) => tmps.setIfInBounds t a) r.tmps) r.assign r.body w fun
      | .returned v, w'' => next (a.put o.dst v) w''
      | .panicked chain, w'' => Q (.panic chain) a w''
      | .outgrown, _ => LetsOut Q := by
    refine roundIn_of_wpIn trivial ?_
    rw [g5, g6]
    refine wpIn_mono (ha w0 G { tmps := _, defers := [] } w ⟨hi, henv⟩ (some B.b) ⟨B, hj0, rfl⟩) ?_
    rintro e2 a1 w1 ⟨rfl, G1, ms1, k1, k2, _, _⟩
    have hj1 := k2.le.j _ _ hj0
    obtain ⟨r1, m1, m2, m3, m4, m5, m6, m7, m8⟩ := k1.inv.loopAt h1 hj1
    refine ⟨_, run_beginRound m1 m2, ?_⟩
    obtain ⟨i1, x1⟩ := m8 .busy pe1
    have hpe : ({ r1 with state := .busy, pending := pe1 } : Loop) = { r1 with state := .busy } := by rw [← m3]
    rw [hpe] at i1 x1
    refine wpIn_mono (hbd w0 G1 a1 _ ⟨i1, k1.env⟩ (some B.b) ⟨B, hj1, rfl⟩) ?_
    rintro e3 a2 w2 ⟨rfl, G2, ms2, p1, p2, _, _⟩
    have hj2 := p2.le.j _ _ hj1
    obtain ⟨r2, q1, q2, q3, q4, q5, q6, q7, q8⟩ := p1.inv.loopAt h2 hj2
    obtain ⟨i2, x2⟩ := q8 (if j.isNone then .ready else .done) j
    have fin := hn G2 (.bool j.isNone) _ (.bool _) i2 (((k2.trans x1).trans p2).trans x2)
    cases e3 with
    | normal => simp only [jumpC, Option.some.injEq] at hj; subst hj; exact ⟨_, _, run_endRound none q1, fin⟩
    | ret => simp only [jumpC, Option.some.injEq] at hj; subst hj; exact ⟨_, _, run_endRound (some .ret) q1, fin⟩
    | exit id => simp only [jumpC, Option.some.injEq] at hj; subst hj; exact ⟨_, _, run_endRound (some (.exit id)) q1, fin⟩
    | goto l => simp only [jumpC, Option.some.injEq] at hj; subst hj; exact ⟨_, _, run_endRound (some (.goto l)) q1, fin⟩
    | panic ch => simp [jumpC] at hj
    | outgrown => simp [jumpC] at hj
  exact hR
theorem enterLoop_inner {P : Program} {w : World} {l0 : Nat} {r0 : Loop} (h : w.heap[l0]? = some (.loop r0)) (fn : FuncId) (tmps : Array Value) (ps : Array Tmp) (assign body : Code) :
    (Instr.enterLoop fn tmps ps assign body (some l0)).run P w = .ok (w.heap.size, []) (w.alloc (.loop { state := .ready, pending := none, fn, tmps, params := ps, assign, body, defers := r0.defers })) := by
  unfold Instr.enterLoop
  simp only [Sem.run_bind, run_getLoop h, run_newObj_alloc, Result.andThen, Sem.run_pure]
theorem codeS_rangeFunc {ro : Option Nat} {nt : Nat} {env : Env} {g : Operand} {ps : Array Tmp} {assign body : Code} {f : FuncId} {caps : List AV} {fn : Func} {c : Code} {r : AV} {σ1 : Sto} {st : LoopState} {j : Option Code} {e : Exit}
    (hg : ev C nt env g = .fn f caps) (hb : Body C.P f fn c) (hro : ∀ id0, ro = some id0 → ∃ L st pe, σ.get id0 = some (.loop L st pe))
    (hcall : CallS C f (.yld σ.next :: caps) (σ.add (.loop ⟨nt, env, ps, assign, body⟩ .ready none)) r σ1) (h1 : σ1.get σ.next = some (.loop ⟨nt, env, ps, assign, body⟩ st j)) (hst : st ≠ .busy) (hj : jumpC e = some j) :
    CodeS C ro nt (.rangeFunc g ps assign body) env σ e env (σ1.del σ.next) := by
  intro w0 G a w hrel cr hcr
  have hi := hrel.inv
  refine wpIn_rangeFunc fun fnr _ => ?_
  -- the record is laid
  obtain ⟨D, l, mark, w1, Gr, hent, hinv1, hext1, hB, hmark⟩ : ∃ (D : List Nat) (l : Nat) (mark : List Deferred) (w1 : World) (defers : Nat),
      (Instr.enterLoop fnr a.tmps ps assign body (FW cr).round).run C.P w = .ok (l, mark) (w1.alloc (.loop { state := .ready, pending := none, fn := fnr, tmps := a.tmps, params := ps, assign, body, defers })) ∧
      Inv C.gl w0 G σ w1 ∧ Ext G σ w G σ w1 ∧ l = w1.heap.size ∧ (mark = D.map mk ∧ Marks G σ w1 w.heap.size D) := by
    cases ro with
    | none =>
      cases cr with
      | none =>
        refine ⟨[w.heap.size], w.heap.size + 1, [mk w.heap.size], w.alloc (.deferred (some [])), w.heap.size, run_enterLoop_outer _ _ _ _ _, hi.other _, .other G σ _, by simp, rfl, List.nodup_cons.2 ⟨by simp, .nil⟩, fun r hr => ?_⟩
        simp only [List.mem_singleton] at hr
        subst hr
        exact ⟨Nat.le_refl _, World.alloc_heap_new w _, fun ho => absurd (Own.lt hi ho) (Nat.lt_irrefl _)⟩
      | some l0 => cases hcr
    | some id0 =>
      cases cr with
      | none => cases hcr
      | some l0 =>
        obtain ⟨B0, hB0, rfl⟩ := hcr
        obtain ⟨L0, st0, pe0, hs0⟩ := hro id0 rfl
        obtain ⟨r0, g1, _⟩ := hi.loopAt hs0 hB0
        exact ⟨[], w.heap.size, [], w, r0.defers, enterLoop_inner g1 _ _ _ _ _, hi, .refl G σ w, rfl, rfl, Marks.nil⟩
  subst hB
  obtain ⟨hmk, hms⟩ := hmark
  let rec0 : Loop := { state := .ready, pending := none, fn := fnr, tmps := a.tmps, params := ps, assign, body, defers := Gr }
  let B : Blk := ⟨w1.heap.size, 0, 0, 0⟩
  have hfr : G.j σ.next = none := hi.fresh _ (Nat.le_refl _)
  have hIno : ∀ k, G.I w1.heap.size k = none := fun k => by
    cases hk : G.I w1.heap.size k with
    | none => rfl
    | some v => exact absurd (hinv1.imm_lt hk) (Nat.lt_irrefl _)
  have hinv2 : Inv C.gl w0 (G.new σ.next B) (σ.add (.loop ⟨nt, env, ps, assign, body⟩ .ready none)) (w1.alloc (.loop rec0)) := by
    refine hinv1.new σ.next (σ.next + 1) _ B (.loop rec0) (by omega) (by omega) hfr rfl ?_
    exact ⟨rec0, World.alloc_heap_new w1 _, rfl, rfl, rfl, rfl, rfl, hrel.env.size, fun t ht => (hrel.env.rep t ht).mono (Gh.le_new B hfr), fun k => hIno k⟩
  have hext2 : Ext G σ w1 (G.new σ.next B) (σ.add (.loop ⟨nt, env, ps, assign, body⟩ .ready none)) (w1.alloc (.loop rec0)) := .new hinv1 (σ.next + 1) _ B (.loop rec0) (by omega) rfl
  have hgv := hrel.env.ev (C := C) hi g
  rw [hg] at hgv
  obtain ⟨cv, hcv, hlc, hrc⟩ : ∃ (cv : Array Value), a.eval g = .func (.func f) #[] cv ∧ cv.size = caps.length ∧ ∀ (i : Nat) (x : AV) (v : Value), caps[i]? = some x → cv[i]? = some v → Rep G x v := by
    generalize a.eval g = v at hgv
    cases hgv with
    | fn _ _ vs hl hv => exact ⟨vs, rfl, hl, hv⟩
  have hnm : ¬ (fn.name = "runtime.NumGoroutine") := by simpa using hb.name
  have hle := Gh.le_new B hfr
  have hjn : (G.new σ.next B).j σ.next = some B := by simp [Gh.new]
  refine ⟨w1.heap.size, mark, w1.alloc (.loop rec0), { target := .fn (.func f) cv, args := #[.func (.yield w1.heap.size) #[] #[]] }, w1.alloc (.loop rec0), f, #[.func (.yield w1.heap.size) #[] #[]] ++ cv, w1.alloc (.loop rec0), hent, ?_, fun _ _ => trivial, ?_, (fun h => by cases h), ?_⟩
  · have hev : ∀ v : Value, a.eval (.const v) = v := fun v => rfl
    simp [resolve, rangeCall, hcv, Deferred.ofValue, hev]
  · simp [invoke, callFunc, hb.here, hnm, hb.body]
  · have hsz : (#[Value.func (.yield w1.heap.size) #[] #[]] ++ cv).size = (AV.yld σ.next :: caps).length := by
      rw [Array.size_append, List.length_cons, hlc]; exact Nat.add_comm _ _
    have hrep : ∀ (i : Nat) (x : AV) (v : Value), (AV.yld σ.next :: caps)[i]? = some x → (#[Value.func (.yield w1.heap.size) #[] #[]] ++ cv)[i]? = some v → Rep (G.new σ.next B) x v := fun i x v hx hv => by
      cases i with
      | zero =>
        have hx' : x = AV.yld σ.next := by simpa using hx.symm
        have hv' : v = Value.func (.yield w1.heap.size) #[] #[] := by
          rw [Array.getElem?_append, if_pos (by simp)] at hv
          simpa using hv.symm
        subst hx'; subst hv'
        exact .yld _ B hjn
      | succ i =>
        have hv' : cv[i]? = some v := by
          rw [Array.getElem?_append, if_neg (by simp)] at hv
          simpa using hv
        exact (hrc i x v (by simpa using hx) hv').mono hle
    have hc := hcall w0 (G.new σ.next B) (w1.alloc (.loop rec0)) _ hinv2 hsz hrep
    refine callsIn_round cr _ (hc.mono ?_)
    rintro e2 w2 ⟨G2, v, rfl, k1, k2, k3⟩
    have hj2 : G2.j σ.next = some B := k3.le.j _ _ hjn
    obtain ⟨r2, m1, m2, m3, m4, m5, m6, m7, m8⟩ := k2.loopAt h1 hj2
    obtain ⟨i3, x3⟩ := m8 .exhausted j
    have hrun : (Instr.endLoop w1.heap.size).run C.P w2 = .ok j (w2.putObj w1.heap.size (.loop { r2 with state := .exhausted, pending := j })) := by
      have := run_endLoop (P := C.P) m1 (by rw [m2]; exact hst)
      rw [m3] at this
      exact this
    refine ⟨j, _, hrun, ?_⟩
    have hS : (σ1.set σ.next (.loop ⟨nt, env, ps, assign, body⟩ .exhausted j)).le (σ1.del σ.next) := ⟨rfl, fun i => by
      simp only [Sto.set, Sto.del]
      split
      · exact .inr rfl
      · exact .inl rfl⟩
    have i4 : Inv C.gl w0 G2 (σ1.del σ.next) _ := i3.forget hS
    have x4 : Ext G σ w G2 (σ1.del σ.next) _ := (((hext1.trans hext2).trans k3).trans x3).trans (Ext.forget hS)
    have x5 : Ext G σ w1 G2 (σ1.del σ.next) _ := ((hext2.trans k3).trans x3).trans (Ext.forget hS)
    have hpost : ∀ a' : Act, a'.tmps = a.tmps → a'.defers = mark ++ a.defers → ∃ G' ms, Rel C w0 G' nt env (σ1.del σ.next) a' (w2.putObj w1.heap.size (.loop { r2 with state := .exhausted, pending := j })) ∧
        Ext G σ w G' (σ1.del σ.next) (w2.putObj w1.heap.size (.loop { r2 with state := .exhausted, pending := j })) ∧ a'.defers = ms.map mk ++ a.defers ∧ Marks G' (σ1.del σ.next) (w2.putObj w1.heap.size (.loop { r2 with state := .exhausted, pending := j })) w.heap.size ms := fun a' ht hd =>
      ⟨G2, D, ⟨i4, by rw [ht]; exact hrel.env.mono x4.le⟩, x4, by rw [hd, hmk], hms.ext x5⟩
    cases e with
    | normal => simp only [jumpC, Option.some.injEq] at hj; subst hj; exact ⟨rfl, hpost _ rfl rfl⟩
    | ret => simp only [jumpC, Option.some.injEq] at hj; subst hj; exact wpIn_ret ⟨rfl, hpost _ rfl rfl⟩
    | exit id => simp only [jumpC, Option.some.injEq] at hj; subst hj; exact wpIn_exit ⟨rfl, hpost _ rfl rfl⟩
    | goto l => simp only [jumpC, Option.some.injEq] at hj; subst hj; exact wpIn_goto ⟨rfl, hpost _ rfl rfl⟩
    | panic ch => simp [jumpC] at hj
    | outgrown => simp [jumpC] at hj
end
def YStep (C : Cx) (id : Nat) (xs : List AV) (σ : Sto) (b : Bool) (σ' : Sto) : Prop :=
  ∀ (o : Oper) (ρ : Operand → AV) (f : Operand) (as : Array Operand) (ts : Array TypeId), o.op = .call { callee := .value f, args := as, argTypes := ts } → ρ f = .yld id → as.toList.map ρ = xs → OpStep C o ρ σ (.bool b) σ'
theorem callR_yield {C : Cx} {ρ : Operand → AV} {σ σ1 : Sto} {cl : Call} {K : AV → Sto → Prop} {f : Operand} {id : Nat} {xs : List AV} {b : Bool} (h : YStep C id xs σ b σ1)
    (hc : cl.callee = .value f) (hf : ρ f = .yld id) (ha : cl.args.toList.map ρ = xs) (hk : K (.bool b) σ1) : callR C ρ σ (.call cl) K :=
  ⟨.bool b, σ1, fun o ho => h o ρ f cl.args cl.argTypes (by rw [ho, ← hc]) hf ha, hk⟩
theorem callK_yield {C : Cx} {nt : Nat} {d : Option Nat} {cl : Call} {rs : List RO} {K : Env → Sto → Prop} {env : Env} {σ σ1 : Sto} {f : Operand} {id : Nat} {xs : List AV} {b : Bool} (h : YStep C id xs σ b σ1)
    (hc : cl.callee = .value f) (hf : ev C nt env f = .yld id) (ha : cl.args.toList.map (ev C nt env) = xs) (hk : wpr C nt rs K (putA env d (.bool b)) σ1) : callK C nt d cl rs K env σ :=
  callR_yield h hc hf ha hk
theorem yStep_of {C : Cx} {id : Nat} {L : LoopI} {pe0 : Option Code} {xs : List AV} {σ : Sto} {R : Bool → Sto → Prop} (hs : σ.get id = some (.loop L .ready pe0)) (hps : xs.length = L.ps.size)
    (h : WK C (some id) L.nt (toK L.assign) (fun e env1 σ1 => e = .normal ∧ ∃ pe1, σ1.get id = some (.loop L .ready pe1) ∧
      WK C (some id) L.nt (toK L.body) (fun e2 env2 σ2 => (∃ pe2, σ2.get id = some (.loop L .busy pe2)) ∧ ∃ j, jumpC e2 = some j ∧ R j.isNone (σ2.set id (.loop L (if j.isNone = true then .ready else .done) j))) env1 (σ1.set id (.loop L .busy pe1)))
      (bindP L.env L.ps.toList xs) σ) : ∃ b σ', YStep C id xs σ b σ' ∧ R b σ' := by
  obtain ⟨e, env1, σ1, h1, rfl, pe1, h2, h3⟩ := h L.assign rfl
  obtain ⟨e2, env2, σ2, h4, ⟨pe2, h5⟩, j, h6, h7⟩ := h3 L.body rfl
  refine ⟨_, _, fun o ρ f as ts ho hf ha => ?_, h7⟩
  refine opStep_yield ho hf hs (by rw [← hps, ← ha]; simp) (by rw [ha]; exact h1) h2 h4 h5 h6
theorem WK.rangeFunc {C : Cx} {ro : Option Nat} {nt : Nat} {Q : Exit → Env → Sto → Prop} {env : Env} {σ : Sto} {g : Operand} {ps : Array Tmp} {assign body : Code} {f : FuncId} {caps : List AV} {fn : Func} {c : Code}
    (hg : ev C nt env g = .fn f caps) (hb : Body C.P f fn c) (hro : ∀ id0, ro = some id0 → ∃ L st pe, σ.get id0 = some (.loop L st pe))
    (h : ∀ L : LoopI, L.nt = nt → L.env = env → L.ps = ps → toK L.assign = toK assign → toK L.body = toK body →
      ∃ r σ1, CallS C f (.yld σ.next :: caps) (σ.add (.loop L .ready none)) r σ1 ∧ ∃ st j e, σ1.get σ.next = some (.loop L st j) ∧ st ≠ .busy ∧ jumpC e = some j ∧ Q e env (σ1.del σ.next)) :
    WK C ro nt (.oth (.rangeFunc g ps assign body)) Q env σ := by
  intro c hc
  have hc' : c = .rangeFunc g ps assign body := by
    cases c with
    | region id' ops' d => cases d with
      | false => cases hc
      | true => simp only [toK, K.oth.injEq] at hc; cases hc
    | rangeFunc => simp only [toK, K.oth.injEq] at hc; exact hc
    | _ => first | (cases hc; done) | (simp only [toK, K.oth.injEq] at hc; exact hc)
  subst hc'
  obtain ⟨r, σ1, h1, st, j, e, h2, h3, h4, h5⟩ := h ⟨nt, env, ps, assign, body⟩ rfl rfl rfl rfl rfl
  exact ⟨e, env, _, codeS_rangeFunc hg hb hro h1 h2 h3 h4, h5⟩
theorem ex2 {α β : Type} {A : α → β → Prop} {P B : β → Prop} (h : ∃ r s, A r s ∧ P s) (k : ∀ s, P s → B s) : ∃ r s, A r s ∧ B s := by
  obtain ⟨r, s, h1, h2⟩ := h
  exact ⟨r, s, h1, k s h2⟩
def handT {T A : Type} (step : T → A → T) (go : T → Bool) : T → List A → T
  | t, [] => t
  | t, x :: xs => if go (step t x) = true then handT step go (step t x) xs else step t x
theorem handT_append {T A : Type} (step : T → A → T) (go : T → Bool) : ∀ (xs ys : List A) (t : T), go t = true → handT step go t (xs ++ ys) = if go (handT step go t xs) = true then handT step go (handT step go t xs) ys else handT step go t xs
  | [], ys, t, h => by simp [handT, h]
  | x :: xs, ys, t, h => by
    by_cases hg : go (step t x) = true
    · simp only [List.cons_append, handT, hg, if_true]; exact handT_append step go xs ys _ hg
    · simp [List.cons_append, handT, hg]
structure Kept (m : Nat) (σ σ' : Sto) : Prop where
  get : ∀ i, m ≤ i → i < σ.next → σ'.get i = σ.get i
  next : σ.next ≤ σ'.next
theorem Kept.refl (m : Nat) (σ : Sto) : Kept m σ σ := ⟨fun _ _ _ => rfl, Nat.le_refl _⟩
theorem Kept.trans {m : Nat} {σ σ1 σ2 : Sto} (h : Kept m σ σ1) (k : Kept m σ1 σ2) : Kept m σ σ2 :=
  ⟨fun i h1 h2 => (k.get i h1 (Nat.lt_of_lt_of_le h2 h.next)).trans (h.get i h1 h2), Nat.le_trans h.next k.next⟩
theorem Kept.add (m : Nat) (σ : Sto) (o : AObj) : Kept m σ (σ.add o) := ⟨fun i _ h => by simp only [Sto.get_add]; rw [if_neg (by omega)], by simp [Sto.next_add]⟩
theorem Kept.set {m : Nat} {σ0 σ : Sto} (h : Kept m σ0 σ) (id : Nat) (o : AObj) (hid : id < m ∨ σ0.next ≤ id) : Kept m σ0 (σ.set id o) :=
  ⟨fun i h1 h2 => by simp only [Sto.get_set]; rw [if_neg (by omega)]; exact h.get i h1 h2, h.next⟩
theorem Kept.del {m : Nat} {σ0 σ : Sto} (h : Kept m σ0 σ) (id : Nat) (hid : id < m ∨ σ0.next ≤ id) : Kept m σ0 (σ.del id) :=
  ⟨fun i h1 h2 => by simp only [Sto.get_del]; rw [if_neg (by omega)]; exact h.get i h1 h2, h.next⟩
structure Taker (C : Cx) (id m : Nat) {T A : Type} (I : T → Sto → Prop) (step : T → A → T) (go : T → Bool) (enc : A → List AV) (xs : List A) : Prop where
  lt : id < m
  stable : ∀ t σ σ', I t σ → (∀ i, i < m → σ'.get i = σ.get i) → m ≤ σ'.next → I t σ'
  next : ∀ t σ, I t σ → m ≤ σ.next
  take : ∀ t σ x, x ∈ xs → I t σ → go t = true → ∃ σ', YStep C id (enc x) σ (go (step t x)) σ' ∧ I (step t x) σ' ∧ Kept m σ σ'
theorem Taker.add {C : Cx} {id m : Nat} {T A : Type} {I : T → Sto → Prop} {step : T → A → T} {go : T → Bool} {enc : A → List AV} {xs : List A} (h : Taker C id m I step go enc xs) {t : T} {σ : Sto} (hi : I t σ) (o : AObj) : I t (σ.add o) :=
  h.stable t σ _ hi (fun i hi' => by have := h.next t σ hi; simp only [Sto.get_add]; rw [if_neg (by omega)]) (by have := h.next t σ hi; simp only [Sto.next_add]; omega)
theorem Taker.set {C : Cx} {id m : Nat} {T A : Type} {I : T → Sto → Prop} {step : T → A → T} {go : T → Bool} {enc : A → List AV} {xs : List A} (h : Taker C id m I step go enc xs) {t : T} {σ : Sto} (hi : I t σ) (k : Nat) (o : AObj) (hk : m ≤ k) : I t (σ.set k o) :=
  h.stable t σ _ hi (fun i hi' => by simp only [Sto.get_set]; rw [if_neg (by omega)]) (by have := h.next t σ hi; simp only [Sto.next_set]; omega)
structure TakerP (C : Cx) (id m : Nat) {T A : Type} (I : T → Sto → Prop) (step : T → A → T) (go : T → Bool) (enc : A → List AV) (P : T → A → Prop) : Prop where
  lt : id < m
  stable : ∀ t σ σ', I t σ → (∀ i, i < m → σ'.get i = σ.get i) → m ≤ σ'.next → I t σ'
  next : ∀ t σ, I t σ → m ≤ σ.next
  take : ∀ t σ x, P t x → I t σ → go t = true → ∃ σ', YStep C id (enc x) σ (go (step t x)) σ' ∧ I (step t x) σ' ∧ Kept m σ σ'
theorem TakerP.add {C : Cx} {id m : Nat} {T A : Type} {I : T → Sto → Prop} {step : T → A → T} {go : T → Bool} {enc : A → List AV} {P : T → A → Prop} (h : TakerP C id m I step go enc P) {t : T} {σ : Sto} (hi : I t σ) (o : AObj) : I t (σ.add o) :=
  h.stable t σ _ hi (fun i hi' => by have := h.next t σ hi; simp only [Sto.get_add]; rw [if_neg (by omega)]) (by have := h.next t σ hi; simp only [Sto.next_add]; omega)
theorem TakerP.set {C : Cx} {id m : Nat} {T A : Type} {I : T → Sto → Prop} {step : T → A → T} {go : T → Bool} {enc : A → List AV} {P : T → A → Prop} (h : TakerP C id m I step go enc P) {t : T} {σ : Sto} (hi : I t σ) (k : Nat) (o : AObj) (hk : m ≤ k) : I t (σ.set k o) :=
  h.stable t σ _ hi (fun i hi' => by simp only [Sto.get_set]; rw [if_neg (by omega)]) (by have := h.next t σ hi; simp only [Sto.next_set]; omega)
end Go.Lg
