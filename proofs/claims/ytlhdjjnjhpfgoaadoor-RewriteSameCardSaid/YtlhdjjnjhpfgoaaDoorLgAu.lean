/- Lg, part Au: contracts that are found by themselves. -/
import Derived.Test.YtlhdjjnjhpfgoaaDoorLgX
import Derived.Test.YtlhdjjnjhpfgoaaDoorLgW
set_option linter.unusedVariables false
set_option linter.unusedSimpArgs false
namespace Go.Lg
open Go.RowKit

/-- Said less exactly, so that contracts fit: lists that may be appended to, or are full, as lists. -/
def AV.nz1 : AV → AV
  | .own _ xs => .list false xs
  | .list _ xs => .list false xs
  | a => a
def AV.nzA : AV → AV
  | .agg cs => .agg (cs.map AV.nz1)
  | a => a.nz1
def AV.nz : AV → AV
  | .tup cs => .tup (cs.map AV.nzA)
  | a => a.nzA
theorem le_nz1 (a : AV) : a.le a.nz1 := by
  cases a <;> first | exact .refl _ | exact AV.le_list' _ | exact le_own _ _
theorem leL_map {f : AV → AV} (h : ∀ a : AV, AV.le a (f a)) : ∀ l : List AV, leL l (l.map f)
  | [] => trivial
  | a :: l => ⟨h a, leL_map h l⟩
theorem le_nzA (a : AV) : a.le a.nzA := by
  cases a <;> first | exact AV.le_agg (leL_map le_nz1 _) | exact le_nz1 (.bool _)| exact le_nz1 (.list _ _) | exact le_nz1 (.own _ _) | exact .refl _
theorem le_nz (a : AV) : a.le a.nz := by
  cases a <;> first | exact AV.le_tup (leL_map le_nzA _) | exact AV.le_agg (leL_map le_nz1 _) | exact le_nz1 (.list _ _) | exact le_nz1 (.own _ _) | exact .refl _
theorem le_of_nz {a b : AV} (h : a.nz = b) : a.le b := h ▸ le_nz a

/-- A pure function's contract. -/
class Ctr (C : Cx) (f : FuncId) (args : List AV) (c : outParam Prop) (r : outParam AV) : Prop where
  ok : c → PCall C f args r

section
variable {C : Cx} {nt : Nat} {d : Option Nat} {env : Env} {σ : Sto}
def callN (C : Cx) (nt : Nat) (d : Option Nat) (fv : AV) (zs : List AV) (rs : List RO) (K : Env → Sto → Prop) (env : Env) (σ : Sto) : Prop :=
  ∀ f as ts, ev C nt env f = fv → leL ((as : Array Operand).toList.map (ev C nt env)) zs → callK C nt d ⟨.value f, as, ts⟩ rs K env σ
theorem callK_ofN {f : Operand} {as : Array Operand} {ts : Array TypeId} {rs : List RO} {K : Env → Sto → Prop} (h : callN C nt d (ev C nt env f) ((as.toList.map (ev C nt env)).map AV.nz) rs K env σ) : callK C nt d ⟨.value f, as, ts⟩ rs K env σ :=
  h f as ts rfl (leL_map le_nz _)
theorem callN_auto {g : FuncId} {zs : List AV} {c : Prop} {r : AV} {rs : List RO} {K : Env → Sto → Prop} [hi : Ctr C g zs c r] (hc : c) (hk : wpr C nt rs K (putA env d r) σ) : callN C nt d (.fn g []) zs rs K env σ :=
  fun f as ts hf ha => callK_pureL (hi.ok hc) rfl hf ha hk
def callDN (C : Cx) (nt : Nat) (d : Option Nat) (fv : AV) (zs : List AV) (rs : List (RO × DF)) (hist : List Sto) (ob : Obl) (K : Env → Sto → Prop) (env : Env) (σ : Sto) : Prop :=
  ∀ f as ts, ev C nt env f = fv → leL ((as : Array Operand).toList.map (ev C nt env)) zs → callD C nt d ⟨.value f, as, ts⟩ rs hist ob K env σ
theorem callD_ofN {f : Operand} {as : Array Operand} {ts : Array TypeId} {rs : List (RO × DF)} {hist : List Sto} {ob : Obl} {K : Env → Sto → Prop} (h : callDN C nt d (ev C nt env f) ((as.toList.map (ev C nt env)).map AV.nz) rs hist ob K env σ) :
    callD C nt d ⟨.value f, as, ts⟩ rs hist ob K env σ := h f as ts rfl (leL_map le_nz _)
theorem callDN_auto {g : FuncId} {zs : List AV} {c : Prop} {r : AV} {rs : List (RO × DF)} {hist : List Sto} {ob : Obl} {K : Env → Sto → Prop} [hi : Ctr C g zs c r] (hc : c)
    (hk : oblOK σ ob ∧ wpD C nt K rs (σ :: hist) (oblDec ob) (putA env d r) σ) : callDN C nt d (.fn g []) zs rs hist ob K env σ :=
  fun f as ts hf ha => callD_x0 ((hi.ok hc).callX σ) rfl hf ha hk
end

/-- A contract with the store. -/
class CtrX (C : Cx) (f : FuncId) (zs caps : List AV) (σ : Sto) (c : outParam Prop) (r : outParam AV) (σ' : outParam Sto) : Prop where
  ok : c → CallX C f (zs ++ caps) σ r σ'
section
variable {C : Cx} {nt : Nat} {d : Option Nat} {env : Env} {σ σ' : Sto}
theorem callN_autoX {g : FuncId} {zs caps : List AV} {c : Prop} {r : AV} {rs : List RO} {K : Env → Sto → Prop} [hi : CtrX C g zs caps σ c r σ'] (hc : c) (hk : wpr C nt rs K (putA env d r) σ') : callN C nt d (.fn g caps) zs rs K env σ :=
  fun f as ts hf ha => callK_x (hi.ok hc) rfl hf ha hk
theorem callDN_autoX {g : FuncId} {zs caps : List AV} {c : Prop} {r : AV} {rs : List (RO × DF)} {hist : List Sto} {ob : Obl} {K : Env → Sto → Prop} [hi : CtrX C g zs caps σ c r σ'] (hc : c)
    (hk : oblOK σ' ob ∧ wpD C nt K rs (σ :: hist) (oblDec ob) (putA env d r) σ') : callDN C nt d (.fn g caps) zs rs hist ob K env σ :=
  fun f as ts hf ha => callD_x (hi.ok hc) rfl hf ha hk
end

theorem nz_bool (b : Bool) : (AV.bool b).nz = .bool b := (rfl)
theorem nz_int (k : IntKind) (n : Int) : (AV.int k n).nz = .int k n := (rfl)
theorem nz_str (s : ByteArray) : (AV.str s).nz = .str s := (rfl)
theorem nz_list (f : Bool) (xs : List AV) : (AV.list f xs).nz = .list false xs := (rfl)
theorem nz_own (f : Nat) (xs : List AV) : (AV.own f xs).nz = .list false xs := (rfl)
theorem nz_ptr (i k : Nat) : (AV.ptr i k).nz = .ptr i k := (rfl)
theorem nz_row (i k l : Nat) : (AV.row i k l).nz = .row i k l := (rfl)
theorem nz_nilp : AV.nilp.nz = .nilp := (rfl)
theorem nz_nilf : AV.nilf.nz = .nilf := (rfl)
theorem nz_nilm : AV.nilm.nz = .nilm := (rfl)
theorem nz_nili : AV.nili.nz = .nili := (rfl)
theorem nz_fn (f : FuncId) (cs : List AV) : (AV.fn f cs).nz = .fn f cs := (rfl)
theorem nz_map (i : Nat) : (AV.map i).nz = .map i := (rfl)
theorem nz_yld (i : Nat) : (AV.yld i).nz = .yld i := (rfl)
theorem nz_iface (t : TypeId) (v : AV) : (AV.iface t v).nz = .iface t v := (rfl)
theorem nz_agg (cs : List AV) : (AV.agg cs).nz = .agg (cs.map AV.nz1) := (rfl)
theorem nz_tup (cs : List AV) : (AV.tup cs).nz = .tup (cs.map AV.nzA) := (rfl)
theorem nzA_bool (b : Bool) : (AV.bool b).nzA = .bool b := (rfl)
theorem nzA_int (k : IntKind) (n : Int) : (AV.int k n).nzA = .int k n := (rfl)
theorem nzA_str (s : ByteArray) : (AV.str s).nzA = .str s := (rfl)
theorem nzA_list (f : Bool) (xs : List AV) : (AV.list f xs).nzA = .list false xs := (rfl)
theorem nzA_own (f : Nat) (xs : List AV) : (AV.own f xs).nzA = .list false xs := (rfl)
theorem nzA_agg (cs : List AV) : (AV.agg cs).nzA = .agg (cs.map AV.nz1) := (rfl)
theorem nzA_nilp : AV.nilp.nzA = .nilp := (rfl)
theorem nz1_bool (b : Bool) : (AV.bool b).nz1 = .bool b := (rfl)
theorem nz1_int (k : IntKind) (n : Int) : (AV.int k n).nz1 = .int k n := (rfl)
theorem nz1_str (s : ByteArray) : (AV.str s).nz1 = .str s := (rfl)
theorem nz1_list (f : Bool) (xs : List AV) : (AV.list f xs).nz1 = .list false xs := (rfl)
theorem nz1_own (f : Nat) (xs : List AV) : (AV.own f xs).nz1 = .list false xs := (rfl)
theorem nz1_ptr (i k : Nat) : (AV.ptr i k).nz1 = .ptr i k := (rfl)
theorem nz1_fn (f : FuncId) (cs : List AV) : (AV.fn f cs).nz1 = .fn f cs := (rfl)
theorem nz1_nilp : AV.nilp.nz1 = .nilp := (rfl)
theorem nz1_nilf : AV.nilf.nz1 = .nilf := (rfl)
theorem nz1_nilm : AV.nilm.nz1 = .nilm := (rfl)
theorem nz1_nili : AV.nili.nz1 = .nili := (rfl)
theorem nz1_map (i : Nat) : (AV.map i).nz1 = .map i := (rfl)
attribute [go_sem] nz_bool nz_int nz_str nz_list nz_own nz_ptr nz_row nz_nilp nz_nilf nz_nilm nz_nili nz_fn nz_map nz_yld nz_iface nz_agg nz_tup nzA_bool nzA_int nzA_str nzA_list nzA_own nzA_agg nzA_nilp nz1_bool nz1_int nz1_str nz1_list nz1_own nz1_ptr nz1_fn nz1_nilp nz1_nilf nz1_nilm nz1_nili nz1_map

theorem bne_nq {α : Type} [BEq α] (a b : α) : (a != b) = !(a == b) := rfl
theorem ng_ret : (∀ l, Exit.ret ≠ Exit.goto l) = True := eq_true fun l h => by cases h
theorem ng_normal : (∀ l, Exit.normal ≠ Exit.goto l) = True := eq_true fun l h => by cases h
theorem ng_exit (i : Nat) : (∀ l, Exit.exit i ≠ Exit.goto l) = True := eq_true fun l h => by cases h
attribute [go_sem] implies_true true_implies false_implies and_self decide_true decide_false bne_nq ng_ret ng_normal ng_exit
theorem mput_nil (k v : AV) : mput k v [] = [(k, v)] := (rfl)
theorem mput_cons (k v : AV) (e : AV × AV) (es : List (AV × AV)) : mput k v (e :: es) = if k.peq e.1 = true then (k, v) :: es else e :: mput k v es := (rfl)
theorem mget_nil (k : AV) : mget k [] = none := (rfl)
theorem mget_cons (k : AV) (e : AV × AV) (es : List (AV × AV)) : mget k (e :: es) = if k.peq e.1 = true then some e.2 else mget k es := (rfl)
attribute [go_sem] List.length_map ge_iff_le Bool.false_and Bool.and_false Bool.false_or Bool.or_false Bool.true_or Bool.or_true takeM
attribute [go_sem] mput_nil mput_cons mget_nil mget_cons
theorem wrap64 {x : Int} (h1 : -9223372036854775808 ≤ x) (h2 : x ≤ 9223372036854775807) : IntKind.i64.wrap x = x := wrap_lt h1 h2
/-! ### Formulas kept folded -/
theorem cells_encF (f : Fm) : (encF f).cells = [.int .i64 f.op, .int .i64 f.var, .list false (encFs f.args)] := by rw [encF_eq]; rfl
theorem def_encF (f : Fm) : (encF f).def = true := by rw [encF_eq]; rfl
theorem fldA_encF {σ : Sto} {off : Nat} {fi : TyI} (f : Fm) : fldA σ (some (off, fi)) (encF f) = ⟨rdOK fi [.int .i64 f.op, .int .i64 f.var, .list false (encFs f.args)] off, rdC fi [.int .i64 f.op, .int .i64 f.var, .list false (encFs f.args)] off, σ⟩ := by rw [encF_eq]; rfl
theorem nz_encF (f : Fm) : (encF f).nz = encF f := by rw [encF_eq]; rfl
theorem nzA_encF (f : Fm) : (encF f).nzA = encF f := by rw [encF_eq]; rfl
theorem encF_fold (o v : Int) (l : List Fm) : AV.agg [.int .i64 o, .int .i64 v, .list false (encFs l)] = encF (.mk o v l) := by rw [encF_eq]; rfl
theorem encF_fold0 (o v : Int) : AV.agg [.int .i64 o, .int .i64 v, .list false []] = encF (.mk o v []) := by rw [encF_eq]; rfl
theorem encFs_fold1 (fl : Bool) (f : Fm) : AV.list fl [encF f] = .list fl (encFs [f]) := (rfl)
theorem encFs_fold2 (fl : Bool) (f g : Fm) : AV.list fl [encF f, encF g] = .list fl (encFs [f, g]) := (rfl)
theorem encFs_fold3 (fl : Bool) (f g h : Fm) : AV.list fl [encF f, encF g, encF h] = .list fl (encFs [f, g, h]) := (rfl)
theorem fm_op (o v : Int) (l : List Fm) : (Fm.mk o v l).op = o := (rfl)
theorem fm_var (o v : Int) (l : List Fm) : (Fm.mk o v l).var = v := (rfl)
theorem fm_args (o v : Int) (l : List Fm) : (Fm.mk o v l).args = l := (rfl)
attribute [go_sem high] cells_encF def_encF fldA_encF nz_encF nzA_encF
theorem encFs_nil : encFs [] = [] := (rfl)
theorem encFs_snoc (a : List Fm) (f : Fm) : encFs (a ++ [f]) = encFs a ++ [encF f] := by
  induction a with
  | nil => rfl
  | cons g a ih => simp only [List.cons_append, encFs, ih]
attribute [go_sem] encFs_snoc encFs_nil fm_op fm_var fm_args encFs_len encFs_get List.getElem_cons_zero List.getElem_cons_succ
end Go.Lg
