/- Lg, part D: addresses, arithmetic, and other operations that turn no memory. -/
import Derived.Test.YtndchmmclfidgaaDoorLgC
set_option linter.unusedVariables false
set_option linter.unusedSimpArgs false
namespace Go.Lg
open Go.RowKit

def AV.shift (n : Nat) : AV → AV
  | .ptr id k => .ptr id (k + n)
  | .rptr id i k => .rptr id i (k + n)
  | .eptr cs k => .eptr cs (k + n)
  | _ => .undef
def AV.isAddr : AV → Bool
  | .ptr _ _ | .rptr _ _ _ | .eptr _ _ => true
  | _ => false

theorem Rep.shift {G : Gh} {a : AV} {v : Value} (h : Rep G a v) (ha : a.isAddr = true) : ∃ b o, v = .pointer (some ⟨b, o, none⟩) ∧ ∀ n, Rep G (a.shift n) (.pointer (some ⟨b, o + n, none⟩)) := by
  cases h with
  | ptr id k B hj => exact ⟨_, _, rfl, fun n => .ptr id (k + n) B hj⟩
  | rptr id i k B hj => exact ⟨_, _, rfl, fun n => by have := Rep.rptr (G := G) id i (k + n) B hj; rwa [← Nat.add_assoc] at this⟩
  | eptr cells k b o vs hI hv => exact ⟨_, _, rfl, fun n => by have := Rep.eptr (G := G) cells (k + n) b o vs hI hv; rwa [← Nat.add_assoc] at this⟩
  | _ => simp [AV.isAddr] at ha

section ops
variable {C : Cx} {o : Oper} {ρ : Operand → AV} {σ : Sto}

theorem snd_fieldAddr {t : TypeId} {ti fi : TyI} {fs : Array Field} {x : Operand} {f : Nat} {fl : Field} (ht : C.ty t = some ti) (hd : ti.desc = .struct fs) (hf : fs[f]? = some fl) (hfi : C.ty fl.type = some fi)
    (ho : o.op = .fieldAddr t x f) : Snd C o ρ σ ⟨fi.size ≠ 0 ∧ (ρ x).isAddr = true, (ρ x).shift fl.offset, σ⟩ :=
  snd_pure fun ⟨hz, ha⟩ w0 G a w hi hr => by
    obtain ⟨b, k, hv, hn⟩ := (hr x (by simp [ho, Op.operands])).shift ha
    refine ⟨_, ?_, hn fl.offset⟩
    simp [execOp, ho, Instr.fieldAt, C.run_und ht, hd, hf, hv, Instr.sureAddr, fieldPlace, C.run_size hfi, hz, add_at]

theorem snd_indexAddr_arr {t e : TypeId} {ti ei : TyI} {n : Nat} {x ix : Operand} (ht : C.ty t = some ti) (hd : ti.desc = .array n e) (he : C.ty e = some ei) (ho : o.op = .indexAddr t x ix) :
    Snd C o ρ σ ⟨(ρ x).isAddr = true ∧ (ρ ix).isInt = true ∧ 0 ≤ (ρ ix).theI ∧ (ρ ix).theI < n, (ρ x).shift ((ρ ix).theI.toNat * ei.size), σ⟩ :=
  snd_pure fun ⟨ha, hb, h0, h1⟩ w0 G a w hi hr => by
    obtain ⟨b, k, hv, hn⟩ := (hr x (by simp [ho, Op.operands])).shift ha
    have hi' := (hr ix (by simp [ho, Op.operands])).isInt hb
    refine ⟨_, ?_, hn _⟩
    simp [execOp, ho, Instr.indexAt, hi', asIntOf, C.run_und ht, hd, hv, Instr.sureAddr, h0, h1, C.run_size he, add_at]

theorem snd_indexAddr_list {t e : TypeId} {ti ei : TyI} {x ix : Operand} {full : Bool} {xs : List AV} (ht : C.ty t = some ti) (hd : ti.desc = .slice e) (he : C.ty e = some ei) (ho : o.op = .indexAddr t x ix) (hx : ρ x = .list full xs) :
    Snd C o ρ σ ⟨(ρ ix).isInt = true ∧ 0 ≤ (ρ ix).theI ∧ (ρ ix).theI < xs.length ∧ (xs.getD (ρ ix).theI.toNat .undef).cells.length = ei.size, .eptr (xs.getD (ρ ix).theI.toNat .undef).cells 0, σ⟩ :=
  snd_pure fun ⟨hb, h0, h1, h2⟩ w0 G a w hi hr => by
    have hp := hr x (by simp [ho, Op.operands])
    rw [hx] at hp
    have hi' := (hr ix (by simp [ho, Op.operands])).isInt hb
    generalize (ρ ix).theI = n at *
    have hl : n.toNat < xs.length := by omega
    have hg := List.getElem?_eq_getElem hl
    have hgd : xs.getD n.toNat .undef = xs[n.toNat] := by rw [List.getD_eq_getElem?_getD, hg]; rfl
    rw [hgd] at h2 ⊢
    cases hv : a.eval x with
    | slice ad len cap =>
      rw [hv] at hp
      cases hp with
      | list0 => simp at hl
      | list _ _ b o' _ _ es vs hl' hc hf hs hI hvv =>
        have hes : es = ei.size := by rw [← hs _ _ hg, h2]
        subst hes
        refine ⟨.pointer (some ⟨b, o' + n.toNat * ei.size + 0, none⟩), ?_, ?_⟩
        · simp [execOp, ho, Instr.indexAt, hi', asIntOf, C.run_und ht, hd, hv, h0, h1, ← hl', C.run_size he, add_at]
        · refine .eptr _ 0 b (o' + n.toNat * ei.size) (fun k => vs n.toNat k) (fun k hk => ?_) fun k c hk => hvv _ _ k c hg hk
          rw [Nat.add_assoc]
          exact hI _ _ (by omega) (by rw [h2] at hk; exact hk)
    | _ => rw [hv] at hp; cases hp

theorem snd_indexAddr_row {t e : TypeId} {ti ei : TyI} {x ix : Operand} {id off len es : Nat} {xs : List AV} {fz : Bool} (ht : C.ty t = some ti) (hd : ti.desc = .slice e) (he : C.ty e = some ei) (ho : o.op = .indexAddr t x ix)
    (hx : ρ x = .row id off len) (hs : σ.get id = some (.row es xs fz)) :
    Snd C o ρ σ ⟨(ρ ix).isInt = true ∧ 0 ≤ (ρ ix).theI ∧ (ρ ix).theI < len ∧ es = ei.size, .rptr id (off + (ρ ix).theI.toNat) 0, σ⟩ :=
  snd_pure fun ⟨hb, h0, h1, h2⟩ w0 G a w hi hr => by
    have hp := hr x (by simp [ho, Op.operands])
    rw [hx] at hp
    have hi' := (hr ix (by simp [ho, Op.operands])).isInt hb
    generalize (ρ ix).theI = n at *
    cases hv : a.eval x with
    | slice ad len' cap =>
      rw [hv] at hp
      cases hp with
      | row _ _ _ _ o' B hj hc h =>
        obtain ⟨_, vs, ty, g1, g2, g3, _⟩ := hi.obj id _ B hs hj
        rcases h with ⟨ho', _⟩ | ⟨hz, _⟩
        · refine ⟨.pointer (some ⟨B.b, B.o0 + (off + n.toNat) * B.es + 0, none⟩), ?_, .rptr _ _ _ B hj⟩
          have e : o' + n.toNat * ei.size = B.o0 + (off + n.toNat) * B.es + 0 := by rw [ho', g3, h2, Nat.add_mul]; omega
          simp [execOp, ho, Instr.indexAt, hi', asIntOf, C.run_und ht, hd, hv, h0, h1, C.run_size he, add_at, e]
        · omega
    | _ => rw [hv] at hp; cases hp

theorem part_rd {t : TypeId} {i : TyI} (ht : C.ty t = some i) {G : Gh} {w : World} {cs : List AV} {vs : Array Value} {k : Nat} (hl : vs.size = cs.length)
    (hv : ∀ (i : Nat) (c : AV) (v : Value), cs[i]? = some c → vs[i]? = some v → Rep G c v) (hk : rdOK i cs k) : ∃ v, (part t vs k).run C.P w = .ok v w ∧ Rep G (rdC i cs k) v := by
  obtain ⟨h1, h2⟩ := hk
  simp only [part, Sem.run_bind, C.run_isAgg ht, Result.andThen_ok, rdC]
  by_cases ha : isAggD i.desc = true
  · simp only [ha, if_true, Sem.run_bind, C.run_size ht, Result.andThen_ok, Sem.run_pure]
    refine ⟨_, rfl, .agg _ _ (by simp; omega) fun j c v hj hv' => ?_⟩
    have hjs : j < i.size := by
      have := (List.getElem?_eq_some_iff.1 hj).1
      simp at this; omega
    simp only [List.getElem?_take, hjs, if_true, List.getElem?_drop] at hj
    rw [Array.getElem?_extract] at hv'
    split at hv'
    · exact hv _ c v hj hv'
    · cases hv'
  · have hk' : k < vs.size := by have := h2 (by simpa using ha); omega
    have hkc : k < cs.length := by omega
    refine ⟨vs[k], by simp [ha, hk'], ?_⟩
    simp only [ha, if_false, Bool.false_eq_true]
    rw [List.getD_eq_getElem?_getD, List.getElem?_eq_getElem hkc]
    exact hv k _ _ (List.getElem?_eq_getElem hkc) (by simp [hk'])

theorem snd_field {t : TypeId} {ti fi : TyI} {fs : Array Field} {x : Operand} {f : Nat} {fl : Field} {cs : List AV} (ht : C.ty t = some ti) (hd : ti.desc = .struct fs) (hf : fs[f]? = some fl) (hfi : C.ty fl.type = some fi)
    (ho : o.op = .field t x f) (hx : ρ x = .agg cs) : Snd C o ρ σ ⟨rdOK fi cs fl.offset, rdC fi cs fl.offset, σ⟩ :=
  snd_pure fun hc w0 G a w hi hr => by
    have hp := hr x (by simp [ho, Op.operands])
    rw [hx] at hp
    cases hv : a.eval x with
    | agg vs =>
      rw [hv] at hp
      cases hp with
      | agg _ _ hl hvv =>
        obtain ⟨v, h1, h2⟩ := part_rd (w := w) hfi hl hvv hc
        exact ⟨v, by simp [execOp, ho, Instr.field, C.run_und ht, hd, hf, hv, asAgg, h1], h2⟩
    | _ => rw [hv] at hp; cases hp

theorem snd_index_arr {t e : TypeId} {ti ei : TyI} {n : Nat} {x ix : Operand} {cs : List AV} (ht : C.ty t = some ti) (hd : ti.desc = .array n e) (he : C.ty e = some ei) (ho : o.op = .index t x ix) (hx : ρ x = .agg cs) :
    Snd C o ρ σ ⟨(ρ ix).isInt = true ∧ 0 ≤ (ρ ix).theI ∧ (ρ ix).theI < n ∧ rdOK ei cs ((ρ ix).theI.toNat * ei.size), rdC ei cs ((ρ ix).theI.toNat * ei.size), σ⟩ :=
  snd_pure fun ⟨hb, h0, h1, hc⟩ w0 G a w hi hr => by
    have hp := hr x (by simp [ho, Op.operands])
    rw [hx] at hp
    have hi' := (hr ix (by simp [ho, Op.operands])).isInt hb
    cases hv : a.eval x with
    | agg vs =>
      rw [hv] at hp
      cases hp with
      | agg _ _ hl hvv =>
        obtain ⟨v, e1, e2⟩ := part_rd (w := w) he hl hvv hc
        exact ⟨v, by simp [execOp, ho, Instr.index, hi', asIntOf, C.run_und ht, hd, hv, h0, h1, C.run_size he, e1], e2⟩
    | _ => rw [hv] at hp; cases hp

/-- Byte n of a string. -/
def byteAt (s : ByteArray) (n : Nat) : Int := ((s.data.getD n 0).toNat : Int)

theorem snd_index_str {t : TypeId} {ti : TyI} {x ix : Operand} {s : ByteArray} (ht : C.ty t = some ti) (hd : ti.desc = .string) (ho : o.op = .index t x ix) (hx : ρ x = .str s) :
    Snd C o ρ σ ⟨(ρ ix).isInt = true ∧ 0 ≤ (ρ ix).theI ∧ (ρ ix).theI < s.size, .int .u8 (byteAt s (ρ ix).theI.toNat), σ⟩ :=
  snd_pure fun ⟨hb, h0, h1⟩ w0 G a w hi hr => by
    have hp := hr x (by simp [ho, Op.operands])
    rw [hx] at hp
    have hi' := (hr ix (by simp [ho, Op.operands])).isInt hb
    generalize (ρ ix).theI = n at *
    cases hv : a.eval x with
    | string s' =>
      rw [hv] at hp
      cases hp
      have hn : n.toNat < s.size := by omega
      have hg : s[n.toNat]? = some (s[n.toNat]'hn) := by simp [getElem?_pos, hn]
      refine ⟨.int .u8 ((s[n.toNat]'hn).toNat : Int), by simp [execOp, ho, Instr.index, hi', asIntOf, C.run_und ht, hd, hv, h0, hg], ?_⟩
      have : byteAt s n.toNat = ((s[n.toNat]'hn).toNat : Int) := by
        unfold byteAt
        have h' : n.toNat < s.data.size := hn
        rw [Array.getD_eq_getD_getElem?, Array.getElem?_eq_getElem h']; rfl
      rw [this]; exact .int _ _
    | _ => rw [hv] at hp; cases hp

theorem snd_extract {x : Operand} {k : Nat} {vs : List AV} {v : AV} (ho : o.op = .extract x k) (hx : ρ x = .tup vs) (hk : vs[k]? = some v) : Snd C o ρ σ ⟨True, v, σ⟩ :=
  snd_pure fun _ w0 G a w hi hr => by
    have hp := hr x (by simp [ho, Op.operands])
    rw [hx] at hp
    cases hv : a.eval x with
    | tuple us =>
      rw [hv] at hp
      cases hp with
      | tup _ _ hl hvv =>
        have hk' : k < us.size := by rw [hl]; exact (List.getElem?_eq_some_iff.1 hk).1
        exact ⟨us[k], by simp [execOp, ho, Instr.extract, hv, hk'], hvv k v _ hk (by simp [hk'])⟩
    | _ => rw [hv] at hp; cases hp

/-! ### Arithmetic -/
def shlI (k : IntKind) (a b : Int) : Int := k.wrap (a * 2 ^ (min b.toNat k.bits))
def shrI (k : IntKind) (a b : Int) : Int := a.fdiv (2 ^ (min b.toNat k.bits))
def andI (k : IntKind) (a b : Int) : Int := k.wrap ((BitVec.ofInt k.bits a &&& BitVec.ofInt k.bits b).toNat : Int)
def orI (k : IntKind) (a b : Int) : Int := k.wrap ((BitVec.ofInt k.bits a ||| BitVec.ofInt k.bits b).toNat : Int)
def xorI (k : IntKind) (a b : Int) : Int := k.wrap ((BitVec.ofInt k.bits a ^^^ BitVec.ofInt k.bits b).toNat : Int)
def anI (k : IntKind) (a b : Int) : Int := k.wrap ((BitVec.ofInt k.bits a &&& ~~~ BitVec.ofInt k.bits b).toNat : Int)
def aInt (op : BinOp) (k : IntKind) (a : Int) (k2 : IntKind) (b : Int) : Prop × AV :=
  match op with
  | .shl => (0 ≤ b, .int k (shlI k a b))
  | .shr => (0 ≤ b, .int k (shrI k a b))
  | .add => (k = k2, .int k (k.wrap (a + b)))
  | .sub => (k = k2, .int k (k.wrap (a - b)))
  | .mul => (k = k2, .int k (k.wrap (a * b)))
  | .quo => (k = k2 ∧ b ≠ 0, .int k (k.wrap (a.tdiv b)))
  | .rem => (k = k2 ∧ b ≠ 0, .int k (a.tmod b))
  | .and => (k = k2, .int k (andI k a b))
  | .or => (k = k2, .int k (orI k a b))
  | .xor => (k = k2, .int k (xorI k a b))
  | .andNot => (k = k2, .int k (anI k a b))
  | .eql => (k = k2, .bool (a == b))
  | .neq => (k = k2, .bool (a != b))
  | .lss => (k = k2, .bool (decide (a < b)))
  | .leq => (k = k2, .bool (decide (a ≤ b)))
  | .gtr => (k = k2, .bool (decide (a > b)))
  | .geq => (k = k2, .bool (decide (a ≥ b)))

theorem snd_bin_int {op : BinOp} {t t' : TypeId} {x y : Operand} {k k2 : IntKind} {n m : Int} (ho : o.op = .binOp op t x y t') (hx : ρ x = .int k n) (hy : ρ y = .int k2 m) :
    Snd C o ρ σ ⟨(aInt op k n k2 m).1, (aInt op k n k2 m).2, σ⟩ :=
  snd_pure fun hc w0 G a w hi hr => by
    have e1 := (hr x (by simp [ho, Op.operands])).isInt (by rw [hx]; rfl)
    have e2 := (hr y (by simp [ho, Op.operands])).isInt (by rw [hy]; rfl)
    rw [hx] at e1
    rw [hy] at e2
    simp only [AV.theK, AV.theI] at e1 e2
    cases op <;> simp only [aInt, shlI, shrI, andI, orI, xorI, anI] at hc ⊢
    case shl => exact ⟨_, by simp [execOp, ho, e1, e2, eqGuard, binOp, Op.shift, Int.not_lt.2 hc], .int _ _⟩
    case shr => exact ⟨_, by simp [execOp, ho, e1, e2, eqGuard, binOp, Op.shift, Int.not_lt.2 hc], .int _ _⟩
    case quo => exact ⟨_, by simp [execOp, ho, e1, e2, eqGuard, binOp, Op.intDiv, hc.1, hc.2], .int _ _⟩
    case rem => exact ⟨_, by simp [execOp, ho, e1, e2, eqGuard, binOp, Op.intDiv, hc.1, hc.2], .int _ _⟩
    case add => exact ⟨_, by simp [execOp, ho, e1, e2, eqGuard, binOp, Op.intArith, hc], .int _ _⟩
    case sub => exact ⟨_, by simp [execOp, ho, e1, e2, eqGuard, binOp, Op.intArith, hc], .int _ _⟩
    case mul => exact ⟨_, by simp [execOp, ho, e1, e2, eqGuard, binOp, Op.intArith, hc], .int _ _⟩
    case and => subst hc; exact ⟨_, by simp only [execOp, ho, e1, e2, eqGuard, binOp, Op.intBits, Sem.run_bind, ne_eq, not_true_eq_false, if_false]; rfl, .int _ _⟩
    case or => subst hc; exact ⟨_, by simp only [execOp, ho, e1, e2, eqGuard, binOp, Op.intBits, Sem.run_bind, ne_eq, not_true_eq_false, if_false]; rfl, .int _ _⟩
    case xor => subst hc; exact ⟨_, by simp only [execOp, ho, e1, e2, eqGuard, binOp, Op.intBits, Sem.run_bind, ne_eq, not_true_eq_false, if_false]; rfl, .int _ _⟩
    case andNot => subst hc; exact ⟨_, by simp only [execOp, ho, e1, e2, eqGuard, binOp, Op.intBits, Sem.run_bind, ne_eq, not_true_eq_false, if_false]; rfl, .int _ _⟩
    case eql => exact ⟨.bool (n == m), by simp [execOp, ho, e1, e2, eqGuard, binOp, Op.intCmp, hc], .bool _⟩
    case neq => exact ⟨.bool (n != m), by simp [execOp, ho, e1, e2, eqGuard, binOp, Op.intCmp, hc], .bool _⟩
    case lss => exact ⟨.bool (decide (n < m)), by simp [execOp, ho, e1, e2, eqGuard, binOp, Op.intCmp, hc], .bool _⟩
    case leq => exact ⟨.bool (decide (n ≤ m)), by simp [execOp, ho, e1, e2, eqGuard, binOp, Op.intCmp, hc], .bool _⟩
    case gtr => exact ⟨.bool (decide (n > m)), by simp [execOp, ho, e1, e2, eqGuard, binOp, Op.intCmp, hc], .bool _⟩
    case geq => exact ⟨.bool (decide (n ≥ m)), by simp [execOp, ho, e1, e2, eqGuard, binOp, Op.intCmp, hc], .bool _⟩

def aStr (op : BinOp) (a b : ByteArray) : Prop × AV :=
  match op with
  | .add => ((a.size + b.size : Nat) ≤ (9223372036854775807 : Int), .str (a ++ b))
  | .eql => (True, .bool (a.toList == b.toList))
  | .neq => (True, .bool (!(a.toList == b.toList)))
  | .lss => (True, .bool (Op.bytesLess a.toList b.toList))
  | .leq => (True, .bool (Op.bytesLess a.toList b.toList || a.toList == b.toList))
  | .gtr => (True, .bool (!(Op.bytesLess a.toList b.toList || a.toList == b.toList)))
  | .geq => (True, .bool (!(Op.bytesLess a.toList b.toList)))
  | _ => (False, .undef)

theorem Rep.isStr {G : Gh} {s : ByteArray} {v : Value} (h : Rep G (.str s) v) : v = .string s := by cases h; rfl

theorem snd_bin_str {op : BinOp} {t t' : TypeId} {x y : Operand} {n m : ByteArray} (ho : o.op = .binOp op t x y t') (hx : ρ x = .str n) (hy : ρ y = .str m) :
    Snd C o ρ σ ⟨(aStr op n m).1, (aStr op n m).2, σ⟩ :=
  snd_pure fun hc w0 G a w hi hr => by
    have e1 := hr x (by simp [ho, Op.operands])
    have e2 := hr y (by simp [ho, Op.operands])
    rw [hx] at e1
    rw [hy] at e2
    replace e1 := e1.isStr
    replace e2 := e2.isStr
    cases op <;> simp only [aStr] at hc ⊢
    case add =>
      have hm : IntKind.i64.max = 9223372036854775807 := by decide
      exact ⟨_, by simp [execOp, ho, e1, e2, eqGuard, binOp, Op.stringOp, hm]; omega, .str _⟩
    case eql => exact ⟨_, by simp [execOp, ho, e1, e2, eqGuard, binOp, Op.stringOp], .bool _⟩
    case neq => exact ⟨_, by simp [execOp, ho, e1, e2, eqGuard, binOp, Op.stringOp], .bool _⟩
    case lss => exact ⟨_, by simp [execOp, ho, e1, e2, eqGuard, binOp, Op.stringOp], .bool _⟩
    case leq => exact ⟨_, by simp [execOp, ho, e1, e2, eqGuard, binOp, Op.stringOp], .bool _⟩
    case gtr => exact ⟨_, by simp [execOp, ho, e1, e2, eqGuard, binOp, Op.stringOp], .bool _⟩
    case geq => exact ⟨_, by simp [execOp, ho, e1, e2, eqGuard, binOp, Op.stringOp], .bool _⟩
    all_goals exact hc.elim

theorem run_equal_bool {t : TypeId} {ti : TyI} (ht : C.ty t = some ti) (hd : ti.desc = .bool) (n m : Bool) (w : World) : (Op.equal t (.bool n) (.bool m)).run C.P w = .ok (n == m) w := by
  have e : Op.equal t (.bool n) (.bool m) = Op.equalIn (9999 + 1) t (.bool n) (.bool m) := rfl
  rw [e]
  generalize 9999 = d
  simp only [Op.equalIn, Sem.run_bind, C.run_und ht, Result.andThen_ok, hd, Sem.run_pure]

theorem snd_bin_bool {op : BinOp} {t t' : TypeId} {ti : TyI} {x y : Operand} {n m : Bool} (ht : C.ty t = some ti) (hd : ti.desc = .bool) (ho : o.op = .binOp op t x y t') (hx : ρ x = .bool n) (hy : ρ y = .bool m) :
    Snd C o ρ σ ⟨op = .eql ∨ op = .neq, .bool (if op = .eql then n == m else !(n == m)), σ⟩ :=
  snd_pure fun hc w0 G a w hi hr => by
    have e1 := (hr x (by simp [ho, Op.operands])).isBool (by rw [hx]; rfl)
    have e2 := (hr y (by simp [ho, Op.operands])).isBool (by rw [hy]; rfl)
    rw [hx] at e1
    rw [hy] at e2
    simp only [AV.theB] at e1 e2
    rcases hc with rfl | rfl
    · exact ⟨.bool (n == m), by simp only [execOp, ho, e1, e2, eqGuard, binOp, Sem.run_bind, Sem.run_pure, run_equal_bool ht hd, Result.andThen_ok]; rfl, .bool _⟩
    · exact ⟨.bool (!(n == m)), by simp only [execOp, ho, e1, e2, eqGuard, binOp, Sem.run_bind, Sem.run_pure, run_equal_bool ht hd, Result.andThen_ok]; rfl, .bool _⟩

theorem snd_not {t : TypeId} {x : Operand} (ho : o.op = .unOp .not t x) : Snd C o ρ σ ⟨(ρ x).isBool = true, .bool (!(ρ x).theB), σ⟩ :=
  snd_pure fun hc w0 G a w hi hr => by
    have e1 := (hr x (by simp [ho, Op.operands])).isBool hc
    exact ⟨_, by simp [execOp, ho, e1, Op.unary], .bool _⟩

theorem snd_neg {t : TypeId} {x : Operand} {k : IntKind} {n : Int} (ho : o.op = .unOp .neg t x) (hx : ρ x = .int k n) : Snd C o ρ σ ⟨True, .int k (k.wrap (0 - n)), σ⟩ :=
  snd_pure fun hc w0 G a w hi hr => by
    have e1 := (hr x (by simp [ho, Op.operands])).isInt (by rw [hx]; rfl)
    rw [hx] at e1
    simp only [AV.theK, AV.theI] at e1
    exact ⟨.int k (k.wrap (0 - n)), by simp only [execOp, ho, e1, Op.unary, Op.intArith, Sem.run_bind, Sem.run_pure, Result.andThen_ok], .int _ _⟩

theorem snd_inv {t : TypeId} {x : Operand} {k : IntKind} {n : Int} (ho : o.op = .unOp .xor t x) (hx : ρ x = .int k n) :
    Snd C o ρ σ ⟨True, .int k (k.wrap ((BitVec.ofInt k.bits (if k.signed then -1 else k.max) ^^^ BitVec.ofInt k.bits n).toNat : Int)), σ⟩ :=
  snd_pure fun hc w0 G a w hi hr => by
    have e1 := (hr x (by simp [ho, Op.operands])).isInt (by rw [hx]; rfl)
    rw [hx] at e1
    simp only [AV.theK, AV.theI] at e1
    exact ⟨_, by simp only [execOp, ho, e1, Op.unary, Op.intBits, Sem.run_bind]; rfl, .int _ _⟩

theorem snd_nilCheck {x : Operand} (ho : o.op = .nilCheck x) : Snd C o ρ σ ⟨(ρ x).isAddr = true ∨ ∃ f cs, ρ x = .fn f cs, ρ x, σ⟩ :=
  snd_pure fun hc w0 G a w hi hr => by
    have hp := hr x (by simp [ho, Op.operands])
    rcases hc with hc | ⟨f, cs, hc⟩
    · obtain ⟨b, k, hv, hn⟩ := hp.shift hc
      exact ⟨a.eval x, by simp [execOp, ho, hv], hp⟩
    · rw [hc] at hp ⊢
      cases hv : a.eval x with
      | func fn first cap =>
        rw [hv] at hp
        cases hp with
        | fn _ _ _ hl hvv => exact ⟨_, by simp [execOp, ho, hv], .fn f cs _ hl hvv⟩
      | _ => rw [hv] at hp; cases hp

theorem snd_makeFunc {f : FuncId} {cap : Array Operand} (ho : o.op = .makeFunc (.func f) #[] cap) : Snd C o ρ σ ⟨True, .fn f (cap.toList.map ρ), σ⟩ :=
  snd_pure fun hc w0 G a w hi hr => by
    refine ⟨.func (.func f) #[] (cap.map a.eval), by simp [execOp, ho, Instr.makeFunc], .fn f _ _ (by simp) fun i c v h1 h2 => ?_⟩
    simp only [List.getElem?_map, Array.getElem?_toList, Array.getElem?_map] at h1 h2
    cases hx : cap[i]? with
    | none => simp [hx] at h1
    | some x =>
      simp only [hx, Option.map_some, Option.some.injEq] at h1 h2
      subst h1; subst h2
      refine hr x ?_
      simp only [ho, Op.operands, Array.toList_append, List.mem_append]
      exact .inr (Array.mem_toList_iff.2 (Array.mem_of_getElem? hx))

theorem snd_convert_int {src dst : TypeId} {si di : TyI} {x : Operand} {k q : IntKind} {n : Int} (hs : C.ty src = some si) (hd : C.ty dst = some di) (hq : di.desc = .int q) (ho : o.op = .convert src dst x) (hx : ρ x = .int k n) :
    Snd C o ρ σ ⟨True, .int q (q.wrap n), σ⟩ :=
  snd_pure fun hc w0 G a w hi hr => by
    have e1 := (hr x (by simp [ho, Op.operands])).isInt (by rw [hx]; rfl)
    rw [hx] at e1
    simp only [AV.theK, AV.theI] at e1
    exact ⟨_, by simp [execOp, ho, e1, convert, C.run_und hs, C.run_und hd, hq, Conv.intToInt], .int _ _⟩

theorem snd_convert_str {src dst : TypeId} {si di : TyI} {x : Operand} {s : ByteArray} (hs : C.ty src = some si) (hd : C.ty dst = some di) (hq : di.desc = .string) (ho : o.op = .convert src dst x) (hx : ρ x = .str s) :
    Snd C o ρ σ ⟨True, .str s, σ⟩ :=
  snd_pure fun hc w0 G a w hi hr => by
    have e1 := hr x (by simp [ho, Op.operands])
    rw [hx] at e1
    replace e1 := e1.isStr
    exact ⟨.string s, by cases h : si.desc <;> simp [execOp, ho, e1, convert, C.run_und hs, C.run_und hd, hq, h], .str _⟩

theorem snd_makeInterface {t : TypeId} {ti : TyI} {x : Operand} (ht : C.ty t = some ti) (ho : o.op = .makeInterface t x) : Snd C o ρ σ ⟨∀ ms, ti.desc ≠ .interface ms, .iface t (ρ x), σ⟩ :=
  snd_pure fun hc w0 G a w hi hr => by
    refine ⟨.iface t (a.eval x), ?_, .iface _ _ _ (hr x (by simp [ho, Op.operands]))⟩
    simp only [execOp, ho, Instr.makeInterface, Sem.run_bind, C.run_und ht, Result.andThen_ok]
    cases h : ti.desc with
    | interface ms => exact absurd h (hc ms)
    | _ => rfl

/-! ### len, min, max -/
theorem snd_len_str {t : TypeId} {ti : TyI} {x : Operand} {s : ByteArray} (ht : C.ty t = some ti) (hd : ti.desc = .string) (ho : o.op = .call { callee := .builtin .len, args := #[x], argTypes := #[t] }) (hx : ρ x = .str s) :
    Snd C o ρ σ ⟨True, .int .i64 s.size, σ⟩ :=
  snd_pure fun _ w0 G a w hi hr => by
    have e1 := hr x (by simp [ho, Op.operands, Call.operands])
    rw [hx] at e1
    replace e1 := e1.isStr
    exact ⟨_, by simp [execOp, ho, resolve, invoke, builtin, Builtin.len_, C.run_und ht, hd, e1, goInt], .int _ _⟩

theorem snd_len_list {t e : TypeId} {ti : TyI} {x : Operand} {f : Bool} {xs : List AV} (ht : C.ty t = some ti) (hd : ti.desc = .slice e) (ho : o.op = .call { callee := .builtin .len, args := #[x], argTypes := #[t] }) (hx : ρ x = .list f xs) :
    Snd C o ρ σ ⟨True, .int .i64 xs.length, σ⟩ :=
  snd_pure fun _ w0 G a w hi hr => by
    have hp := hr x (by simp [ho, Op.operands, Call.operands])
    rw [hx] at hp
    cases hv : a.eval x with
    | slice ad len cap =>
      rw [hv] at hp
      have hl : len = xs.length := by cases hp <;> first | rfl | (symm; assumption)
      exact ⟨_, by simp [execOp, ho, resolve, invoke, builtin, Builtin.len_, C.run_und ht, hd, hv, goInt, hl], .int _ _⟩
    | _ => rw [hv] at hp; cases hp

theorem snd_len_row {t e : TypeId} {ti : TyI} {x : Operand} {id off len : Nat} (ht : C.ty t = some ti) (hd : ti.desc = .slice e) (ho : o.op = .call { callee := .builtin .len, args := #[x], argTypes := #[t] }) (hx : ρ x = .row id off len) :
    Snd C o ρ σ ⟨True, .int .i64 len, σ⟩ :=
  snd_pure fun _ w0 G a w hi hr => by
    have hp := hr x (by simp [ho, Op.operands, Call.operands])
    rw [hx] at hp
    cases hv : a.eval x with
    | slice ad len cap =>
      rw [hv] at hp
      cases hp
      exact ⟨_, by simp [execOp, ho, resolve, invoke, builtin, Builtin.len_, C.run_und ht, hd, hv, goInt], .int _ _⟩
    | _ => rw [hv] at hp; cases hp

theorem snd_len_arr {t e : TypeId} {ti : TyI} {n : Nat} {x : Operand} (ht : C.ty t = some ti) (hd : ti.desc = .array n e) (ho : o.op = .call { callee := .builtin .len, args := #[x], argTypes := #[t] }) :
    Snd C o ρ σ ⟨True, .int .i64 n, σ⟩ :=
  snd_pure fun _ w0 G a w hi hr => ⟨_, by simp [execOp, ho, resolve, invoke, builtin, Builtin.len_, C.run_und ht, hd, goInt], .int _ _⟩

theorem snd_max {t : Array TypeId} {x y : Operand} {k q : IntKind} {n m : Int} (ho : o.op = .call { callee := .builtin .max, args := #[x, y], argTypes := t }) (hx : ρ x = .int k n) (hy : ρ y = .int q m) :
    Snd C o ρ σ ⟨True, .int k (if m > n then m else n), σ⟩ :=
  snd_pure fun _ w0 G a w hi hr => by
    have e1 := (hr x (by simp [ho, Op.operands, Call.operands])).isInt (by rw [hx]; rfl)
    have e2 := (hr y (by simp [ho, Op.operands, Call.operands])).isInt (by rw [hy]; rfl)
    rw [hx] at e1
    rw [hy] at e2
    simp only [AV.theK, AV.theI] at e1 e2
    exact ⟨_, by simp only [execOp, ho, resolve, invoke, builtin, Builtin.max_, Sem.run_bind, Sem.run_pure, Result.andThen_ok]; simp [e1, e2, Builtin.max2], .int _ _⟩

theorem snd_min {t : Array TypeId} {x y : Operand} {k q : IntKind} {n m : Int} (ho : o.op = .call { callee := .builtin .min, args := #[x, y], argTypes := t }) (hx : ρ x = .int k n) (hy : ρ y = .int q m) :
    Snd C o ρ σ ⟨True, .int k (if m < n then m else n), σ⟩ :=
  snd_pure fun _ w0 G a w hi hr => by
    have e1 := (hr x (by simp [ho, Op.operands, Call.operands])).isInt (by rw [hx]; rfl)
    have e2 := (hr y (by simp [ho, Op.operands, Call.operands])).isInt (by rw [hy]; rfl)
    rw [hx] at e1
    rw [hy] at e2
    simp only [AV.theK, AV.theI] at e1 e2
    exact ⟨_, by simp only [execOp, ho, resolve, invoke, builtin, Builtin.min_, Sem.run_bind, Sem.run_pure, Result.andThen_ok]; simp [e1, e2, Builtin.min2], .int _ _⟩
end ops
end Go.Lg
