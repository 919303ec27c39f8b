/- Lg, part Au: contracts that are found by themselves. -/
import Derived.Test.YtndchmmclfidgaaDoorLgX
import Derived.Test.YtndchmmclfidgaaDoorLgW
set_option linter.unusedVariables false
set_option linter.unusedSimpArgs false
namespace Go.Lg
open Go.RowKit
def AV.nz1 : AV → AV
  | .own _ xs => .list false xs
  | .list _ xs => .list false xs
  | a => a
def AV.nzA : AV → AV
  | .agg cs => .agg (cs.map AV.nz1)
  | a => a.nz1
def AV.nz : AV → AV
  | .tup cs => .tup (cs.map AV.nzA)
  | a => a.nzA
theorem le_nz1 (a : AV) : a.le a.nz1 := by
  cases a <;> first | exact .refl _ | exact AV.le_list' _ | exact le_own _ _
theorem leL_map {f : AV → AV} (h : ∀ a : AV, AV.le a (f a)) : ∀ l : List AV, leL l (l.map f)
  | [] => trivial
  | a :: l => ⟨h a, leL_map h l⟩
theorem le_nzA (a : AV) : a.le a.nzA := by
  cases a <;> first | exact AV.le_agg (leL_map le_nz1 _) | exact le_nz1 (.bool _)| exact le_nz1 (.list _ _) | exact le_nz1 (.own _ _) | exact .refl _
theorem le_nz (a : AV) : a.le a.nz := by
  cases a <;> first | exact AV.le_tup (leL_map le_nzA _) | exact AV.le_agg (leL_map le_nz1 _) | exact le_nz1 (.list _ _) | exact le_nz1 (.own _ _) | exact .refl _
class Ctr (C : Cx) (f : FuncId) (args : List AV) (c : outParam Prop) (r : outParam AV) : Prop where
  ok : c → PCall C f args r
section
variable {C : Cx} {nt : Nat} {d : Option Nat} {env : Env} {σ : Sto}
def callN (C : Cx) (nt : Nat) (d : Option Nat) (fv : AV) (zs : List AV) (rs : List RO) (K : Env → Sto → Prop) (env : Env) (σ : Sto) : Prop :=
  ∀ f as ts, ev C nt env f = fv → leL ((as : Array Operand).toList.map (ev C nt env)) zs → callK C nt d ⟨.value f, as, ts⟩ rs K env σ
theorem callK_ofN {f : Operand} {as : Array Operand} {ts : Array TypeId} {rs : List RO} {K : Env → Sto → Prop} (h : callN C nt d (ev C nt env f) ((as.toList.map (ev C nt env)).map AV.nz) rs K env σ) : callK C nt d ⟨.value f, as, ts⟩ rs K env σ :=
  h f as ts rfl (leL_map le_nz _)
theorem callN_auto {g : FuncId} {zs : List AV} {c : Prop} {r : AV} {rs : List RO} {K : Env → Sto → Prop} [hi : Ctr C g zs c r] (hc : c) (hk : wpr C nt rs K (putA env d r) σ) : callN C nt d (.fn g []) zs rs K env σ :=
  fun f as ts hf ha => callK_pureL (hi.ok hc) rfl hf ha hk
def callDN (C : Cx) (nt : Nat) (d : Option Nat) (fv : AV) (zs : List AV) (rs : List (RO × DF)) (hist : List Sto) (ob : Obl) (K : Env → Sto → Prop) (env : Env) (σ : Sto) : Prop :=
  ∀ f as ts, ev C nt env f = fv → leL ((as : Array Operand).toList.map (ev C nt env)) zs → callD C nt d ⟨.value f, as, ts⟩ rs hist ob K env σ
theorem callD_ofN {f : Operand} {as : Array Operand} {ts : Array TypeId} {rs : List (RO × DF)} {hist : List Sto} {ob : Obl} {K : Env → Sto → Prop} (h : callDN C nt d (ev C nt env f) ((as.toList.map (ev C nt env)).map AV.nz) rs hist ob K env σ) :
    callD C nt d ⟨.value f, as, ts⟩ rs hist ob K env σ := h f as ts rfl (leL_map le_nz _)
theorem callDN_auto {g : FuncId} {zs : List AV} {c : Prop} {r : AV} {rs : List (RO × DF)} {hist : List Sto} {ob : Obl} {K : Env → Sto → Prop} [hi : Ctr C g zs c r] (hc : c)
    (hk : oblOK σ ob ∧ wpD C nt K rs (σ :: hist) (oblDec ob) (putA env d r) σ) : callDN C nt d (.fn g []) zs rs hist ob K env σ :=
  fun f as ts hf ha => callD_x0 ((hi.ok hc).callX σ) rfl hf ha hk
end
class CtrX (C : Cx) (f : FuncId) (zs caps : List AV) (σ : Sto) (c : outParam Prop) (r : outParam AV) (σ' : outParam Sto) : Prop where
  ok : c → CallX C f (zs ++ caps) σ r σ'
section
variable {C : Cx} {nt : Nat} {d : Option Nat} {env : Env} {σ σ' : Sto}
theorem callN_autoX {g : FuncId} {zs caps : List AV} {c : Prop} {r : AV} {rs : List RO} {K : Env → Sto → Prop} [hi : CtrX C g zs caps σ c r σ'] (hc : c) (hk : wpr C nt rs K (putA env d r) σ') : callN C nt d (.fn g caps) zs rs K env σ :=
  fun f as ts hf ha => callK_x (hi.ok hc) rfl hf ha hk
theorem callDN_autoX {g : FuncId} {zs caps : List AV} {c : Prop} {r : AV} {rs : List (RO × DF)} {hist : List Sto} {ob : Obl} {K : Env → Sto → Prop} [hi : CtrX C g zs caps σ c r σ'] (hc : c)
    (hk : oblOK σ' ob ∧ wpD C nt K rs (σ :: hist) (oblDec ob) (putA env d r) σ') : callDN C nt d (.fn g caps) zs rs hist ob K env σ :=
  fun f as ts hf ha => callD_x (hi.ok hc) rfl hf ha hk
end
theorem nz_bool (b : Bool) : (AV.bool b).nz = .bool b := (rfl)
theorem nz_int (k : IntKind) (n : Int) : (AV.int k n).nz = .int k n := (rfl)
theorem nz_str (s : ByteArray) : (AV.str s).nz = .str s := (rfl)
theorem nz_list (f : Bool) (xs : List AV) : (AV.list f xs).nz = .list false xs := (rfl)
theorem nz_own (f : Nat) (xs : List AV) : (AV.own f xs).nz = .list false xs := (rfl)
theorem nz_ptr (i k : Nat) : (AV.ptr i k).nz = .ptr i k := (rfl)
theorem nz_row (i k l : Nat) : (AV.row i k l).nz = .row i k l := (rfl)
theorem nz_nilp : AV.nilp.nz = .nilp := (rfl)
theorem nz_nilf : AV.nilf.nz = .nilf := (rfl)
theorem nz_nilm : AV.nilm.nz = .nilm := (rfl)
theorem nz_nili : AV.nili.nz = .nili := (rfl)
theorem nz_fn (f : FuncId) (cs : List AV) : (AV.fn f cs).nz = .fn f cs := (rfl)
theorem nz_map (i : Nat) : (AV.map i).nz = .map i := (rfl)
theorem nz_yld (i : Nat) : (AV.yld i).nz = .yld i := (rfl)
theorem nz_iface (t : TypeId) (v : AV) : (AV.iface t v).nz = .iface t v := (rfl)
theorem nz_agg (cs : List AV) : (AV.agg cs).nz = .agg (cs.map AV.nz1) := (rfl)
theorem nz_tup (cs : List AV) : (AV.tup cs).nz = .tup (cs.map AV.nzA) := (rfl)
theorem nzA_bool (b : Bool) : (AV.bool b).nzA = .bool b := (rfl)
theorem nzA_int (k : IntKind) (n : Int) : (AV.int k n).nzA = .int k n := (rfl)
theorem nzA_str (s : ByteArray) : (AV.str s).nzA = .str s := (rfl)
theorem nzA_list (f : Bool) (xs : List AV) : (AV.list f xs).nzA = .list false xs := (rfl)
theorem nzA_own (f : Nat) (xs : List AV) : (AV.own f xs).nzA = .list false xs := (rfl)
theorem nzA_agg (cs : List AV) : (AV.agg cs).nzA = .agg (cs.map AV.nz1) := (rfl)
theorem nzA_nilp : AV.nilp.nzA = .nilp := (rfl)
theorem nz1_bool (b : Bool) : (AV.bool b).nz1 = .bool b := (rfl)
theorem nz1_int (k : IntKind) (n : Int) : (AV.int k n).nz1 = .int k n := (rfl)
theorem nz1_str (s : ByteArray) : (AV.str s).nz1 = .str s := (rfl)
theorem nz1_list (f : Bool) (xs : List AV) : (AV.list f xs).nz1 = .list false xs := (rfl)
theorem nz1_own (f : Nat) (xs : List AV) : (AV.own f xs).nz1 = .list false xs := (rfl)
theorem nz1_ptr (i k : Nat) : (AV.ptr i k).nz1 = .ptr i k := (rfl)
theorem nz1_fn (f : FuncId) (cs : List AV) : (AV.fn f cs).nz1 = .fn f cs := (rfl)
theorem nz1_nilp : AV.nilp.nz1 = .nilp := (rfl)
theorem nz1_nilf : AV.nilf.nz1 = .nilf := (rfl)
theorem nz1_nilm : AV.nilm.nz1 = .nilm := (rfl)
theorem nz1_nili : AV.nili.nz1 = .nili := (rfl)
theorem nz1_map (i : Nat) : (AV.map i).nz1 = .map i := (rfl)
attribute [go_sem] nz_bool nz_int nz_str nz_list nz_own nz_ptr nz_row nz_nilp nz_nilf nz_nilm nz_nili nz_fn nz_map nz_yld nz_iface nz_agg nz_tup nzA_bool nzA_int nzA_str nzA_list nzA_own nzA_agg nzA_nilp nz1_bool nz1_int nz1_str nz1_list nz1_own nz1_ptr nz1_fn nz1_nilp nz1_nilf nz1_nilm nz1_nili nz1_map
theorem bne_nq {α : Type} [BEq α] (a b : α) : (a != b) = !(a == b) := rfl
theorem ng_ret : (∀ l, Exit.ret ≠ Exit.goto l) = True := eq_true fun l h => by cases h
theorem ng_normal : (∀ l, Exit.normal ≠ Exit.goto l) = True := eq_true fun l h => by cases h
theorem ng_exit (i : Nat) : (∀ l, Exit.exit i ≠ Exit.goto l) = True := eq_true fun l h => by cases h
attribute [go_sem] implies_true true_implies false_implies and_self decide_true decide_false bne_nq ng_ret ng_normal ng_exit
theorem mput_nil (k v : AV) : mput k v [] = [(k, v)] := (rfl)
theorem mput_cons (k v : AV) (e : AV × AV) (es : List (AV × AV)) : mput k v (e :: es) = if k.peq e.1 = true then (k, v) :: es else e :: mput k v es := (rfl)
theorem mget_nil (k : AV) : mget k [] = none := (rfl)
theorem mget_cons (k : AV) (e : AV × AV) (es : List (AV × AV)) : mget k (e :: es) = if k.peq e.1 = true then some e.2 else mget k es := (rfl)
attribute [go_sem] List.length_map ge_iff_le Bool.false_and Bool.and_false Bool.false_or Bool.or_false Bool.true_or Bool.or_true takeM
attribute [go_sem] mput_nil mput_cons mget_nil mget_cons
theorem cells_encF (f : Fm) : (encF f).cells = [.int .i64 f.op, .int .i64 f.var, .list false (encFs f.args)] := by rw [encF_eq]; rfl
theorem def_encF (f : Fm) : (encF f).def = true := by rw [encF_eq]; rfl
theorem fldA_encF {σ : Sto} {off : Nat} {fi : TyI} (f : Fm) : fldA σ (some (off, fi)) (encF f) = ⟨rdOK fi [.int .i64 f.op, .int .i64 f.var, .list false (encFs f.args)] off, rdC fi [.int .i64 f.op, .int .i64 f.var, .list false (encFs f.args)] off, σ⟩ := by rw [encF_eq]; rfl
theorem nz_encF (f : Fm) : (encF f).nz = encF f := by rw [encF_eq]; rfl
theorem nzA_encF (f : Fm) : (encF f).nzA = encF f := by rw [encF_eq]; rfl
theorem encF_fold (o v : Int) (l : List Fm) : AV.agg [.int .i64 o, .int .i64 v, .list false (encFs l)] = encF (.mk o v l) := by rw [encF_eq]; rfl
theorem encF_fold0 (o v : Int) : AV.agg [.int .i64 o, .int .i64 v, .list false []] = encF (.mk o v []) := by rw [encF_eq]; rfl
theorem encFs_fold1 (fl : Bool) (f : Fm) : AV.list fl [encF f] = .list fl (encFs [f]) := (rfl)
theorem encFs_fold2 (fl : Bool) (f g : Fm) : AV.list fl [encF f, encF g] = .list fl (encFs [f, g]) := (rfl)
theorem encFs_fold3 (fl : Bool) (f g h : Fm) : AV.list fl [encF f, encF g, encF h] = .list fl (encFs [f, g, h]) := (rfl)
theorem fm_op (o v : Int) (l : List Fm) : (Fm.mk o v l).op = o := (rfl)
theorem fm_var (o v : Int) (l : List Fm) : (Fm.mk o v l).var = v := (rfl)
theorem fm_args (o v : Int) (l : List Fm) : (Fm.mk o v l).args = l := (rfl)
attribute [go_sem high] cells_encF def_encF fldA_encF nz_encF nzA_encF
theorem encFs_nil : encFs [] = [] := (rfl)
theorem encFs_snoc (a : List Fm) (f : Fm) : encFs (a ++ [f]) = encFs a ++ [encF f] := by
  induction a with
  | nil => rfl
  | cons g a ih => simp only [List.cons_append, encFs, ih]
attribute [go_sem] encFs_snoc encFs_nil fm_op fm_var fm_args encFs_len encFs_get List.getElem_cons_zero List.getElem_cons_succ
end Go.Lg
/- Lg, part Tm: a list that is appended to takes a number that was kept for it. -/
namespace Go.Lg
open Go.RowKit
def Sto.mv (σ : Sto) (r id : Nat) (o : AObj) : Sto := ⟨fun i => if i = r then some o else if i = id then Option.none else σ.get i, σ.next⟩
theorem Sto.get_mv (σ : Sto) (r id : Nat) (o : AObj) (i : Nat) : (σ.mv r id o).get i = if i = r then some o else if i = id then Option.none else σ.get i := (rfl)
theorem Sto.next_mv (σ : Sto) (r id : Nat) (o : AObj) : (σ.mv r id o).next = σ.next := (rfl)
attribute [go_sem] Sto.get_mv Sto.next_mv
section
variable {P : Program} {b : Frame} {a : Act} {k : List Item} {cs : List Frame} {w : World} {F : Fence} {n : Nat}
theorem stepR_scope {c : Code} : step P (lone (b.atR a (.code (.scope c) :: k)) cs w) = .next (lone (b.atR a (.code c :: .inScope c :: k)) cs w) :=
  step_lone_go (by simp [stepG, stepG.exec, Frame.atR])
theorem stepR_inScope {c : Code} : step P (lone (b.atR a (.inScope c :: k)) cs w) = .next (lone (b.atR a k) cs w) :=
  step_lone_go (by simp [stepG, stepG.exec, Frame.atR])
theorem wpIn_scope {c : Code} {Q : Exit → Act → World → Prop} (hng : ∀ l a w, ¬ Q (.goto l) a w) (h : c.wpIn F n P Q a w) : (Code.scope c).wpIn F n P Q a w := by
  intro b k cs hro hb hr
  have h0 : (lone (b.atR a (.code (.scope c) :: k)) cs w).fenced P F := fenced_calm hb hr rfl
  obtain ⟨e, a₁, w₁, hq, harr⟩ := h b (.inScope c :: k) cs hro hb hr
  cases e with
  | normal => exact ⟨.normal, a₁, w₁, hq, .head h0 stepR_scope (StepsIn.trans harr (.one (fenced_calm hb hr rfl) stepR_inScope))⟩
  | exit id =>
    have hx : exitTo id (.inScope c :: k) = exitTo id k := by simp [exitTo]
    exact ⟨.exit id, a₁, w₁, hq, fun k' hk => .head h0 stepR_scope (harr.1 k' (by rw [hx]; exact hk)),
      fun hr' hk => let ⟨k₁, h1, h2⟩ := harr.2 hr' (by rw [hx]; exact hk); ⟨k₁, h1, .head h0 stepR_scope h2⟩⟩
  | goto l => exact absurd hq (hng l _ _)
  | ret => exact ⟨_, a₁, w₁, hq, .of_steps (.one h0 stepR_scope) harr⟩
  | panic ch => exact ⟨_, a₁, w₁, hq, .of_steps (.one h0 stepR_scope) harr⟩
  | outgrown => exact ⟨_, a₁, w₁, hq, .of_steps (.one h0 stepR_scope) harr⟩
end
theorem codeS_scope {C : Cx} {ro : Option Nat} {nt : Nat} {c : Code} {env env' : Env} {σ σ' : Sto} {e : Exit} (h : CodeS C ro nt c env σ e env' σ') (hng : ∀ l, e ≠ .goto l) : CodeS C ro nt (.scope c) env σ e env' σ' := by
  intro w0 G a w hr cr hcr
  exact wpIn_scope (fun l a w hp => hng l hp.1.symm) (h w0 G a w hr cr hcr)
theorem WK.scope {C : Cx} {ro : Option Nat} {nt : Nat} {c : Code} {Q : Exit → Env → Sto → Prop} {env : Env} {σ : Sto} (h : WK C ro nt (toK c) (fun e env σ => (∀ l, e ≠ .goto l) ∧ Q e env σ) env σ) : WK C ro nt (.oth (.scope c)) Q env σ := by
  intro c' hc
  have hc' : c' = .scope c := by
    cases c' with
    | region id' ops' d => cases d with
      | false => cases hc
      | true => simp only [toK, K.oth.injEq] at hc; cases hc
    | scope => simp only [toK, K.oth.injEq] at hc; exact hc
    | _ => first | (cases hc; done) | (simp only [toK, K.oth.injEq] at hc; exact hc)
  subst hc'
  obtain ⟨e, env', σ', h1, h2, h3⟩ := h c rfl
  exact ⟨e, env', σ', codeS_scope h1 h2, h3⟩
end Go.Lg
/- Lg, part Av: the walks' steps, as default tactics. H is the name of what they may use. -/
namespace Go.Lg
open Go.RowKit
abbrev dm : DF := ⟨true, 0, 0⟩
abbrev dq (b f : Nat) : DF := ⟨false, b, f⟩
attribute [go_sem] dm dq
structure Dmy (Q : Prop) : Prop where
structure Wr (Q : Prop) : Prop where
  q : Q
theorem autoA {P Q : Prop} (h : Q) (k : Wr Q → P := by
  intro hq
  repeat' (first | refine WK.blockSeq ?_ | refine WK.blockCond ?_ | refine WK.blockReg ?_ | (refine WK.condT ?_ ?_; (focus (simp only [go_sem, seval, reduceCtorEq, H]; done))) | (refine WK.condF ?_ ?_; (focus (simp only [go_sem, seval, reduceCtorEq, H]; done))) | refine WK.seq ?_ | ((first | refine WK.reg ?_ | refine WK.skip ?_ | refine WK.ret ?_ | refine WK.exit ?_ | refine WK.label ?_); simp only [go_sem, seval, reduceCtorEq, H]) | (refine appK_own (f := _) (by simp only [go_sem, seval, reduceCtorEq, H]; rfl) (by simp only [go_sem, seval, reduceCtorEq, H]; rfl) (by simp only [go_sem, seval, reduceCtorEq, H]; rfl) (by simp only [go_sem, seval, reduceCtorEq, H]) (by simp only [go_sem, seval, reduceCtorEq, H, List.length_map, List.length_take, List.length_range, List.length_append, List.length_cons, List.length_nil]; first | done | omega) ?_ (by simp only [go_sem, seval, reduceCtorEq, H]; rfl) (by simp only [go_sem, seval, reduceCtorEq, H]) ?_ (by kernel_rfl) (by simp only [go_sem, seval, reduceCtorEq, H, List.length_map, List.length_take, List.length_range, List.length_append, List.length_cons, List.length_nil]; omega) (by simp only [go_sem, seval, reduceCtorEq, H, List.length_map, List.length_take, List.length_range, List.length_append, List.length_cons, List.length_nil]; omega) ?_; all_goals (try simp only [go_sem, seval, reduceCtorEq, H]); all_goals (try (refine okes_map fun _ => ?_; simp only [go_sem, seval, reduceCtorEq, H]; done))) | (refine appD_own (f := _) (by simp only [go_sem, seval, reduceCtorEq, H]; rfl) (by simp only [go_sem, seval, reduceCtorEq, H]; rfl) (by simp only [go_sem, seval, reduceCtorEq, H]; rfl) (by simp only [go_sem, seval, reduceCtorEq, H]) (by simp only [go_sem, seval, reduceCtorEq, H, List.length_map, List.length_take, List.length_range, List.length_append, List.length_cons, List.length_nil]; first | done | omega) ?_ (by simp only [go_sem, seval, reduceCtorEq, H]; rfl) (by simp only [go_sem, seval, reduceCtorEq, H]) ?_ (by kernel_rfl) (by simp only [go_sem, seval, reduceCtorEq, H, List.length_map, List.length_take, List.length_range, List.length_append, List.length_cons, List.length_nil]; omega) (by simp only [go_sem, seval, reduceCtorEq, H, List.length_map, List.length_take, List.length_range, List.length_append, List.length_cons, List.length_nil]; omega) ?_; all_goals (try simp only [go_sem, seval, reduceCtorEq, H]); all_goals (try (refine okes_map fun _ => ?_; simp only [go_sem, seval, reduceCtorEq, H]; done))) | (refine appK_str (by simp only [go_sem, seval, reduceCtorEq, H]; rfl) (by simp only [go_sem, seval, reduceCtorEq, H]; rfl) (by simp only [go_sem, seval, reduceCtorEq, H]; rfl) (by simp only [go_sem, seval, reduceCtorEq, H]) (by simp only [go_sem, seval, reduceCtorEq, H, List.length_map, List.length_take, List.length_range, List.length_append, List.length_cons, List.length_nil]; first | done | omega) ?_ (by simp only [go_sem, seval, reduceCtorEq, H]; rfl) (by simp only [go_sem, seval, reduceCtorEq, H]) (by kernel_rfl) (by kernel_rfl) (by simp only [go_sem, seval, reduceCtorEq, H, List.length_map, List.length_take, List.length_range, List.length_append, List.length_cons, List.length_nil]; omega) (by simp only [go_sem, seval, reduceCtorEq, H, List.length_map, List.length_take, List.length_range, List.length_append, List.length_cons, List.length_nil]; omega) ?_; all_goals (try simp only [go_sem, seval, reduceCtorEq, H])) | (refine appD_str (by simp only [go_sem, seval, reduceCtorEq, H]; rfl) (by simp only [go_sem, seval, reduceCtorEq, H]; rfl) (by simp only [go_sem, seval, reduceCtorEq, H]; rfl) (by simp only [go_sem, seval, reduceCtorEq, H]) (by simp only [go_sem, seval, reduceCtorEq, H, List.length_map, List.length_take, List.length_range, List.length_append, List.length_cons, List.length_nil]; first | done | omega) ?_ (by simp only [go_sem, seval, reduceCtorEq, H]; rfl) (by simp only [go_sem, seval, reduceCtorEq, H]) (by kernel_rfl) (by kernel_rfl) (by simp only [go_sem, seval, reduceCtorEq, H, List.length_map, List.length_take, List.length_range, List.length_append, List.length_cons, List.length_nil]; omega) (by simp only [go_sem, seval, reduceCtorEq, H, List.length_map, List.length_take, List.length_range, List.length_append, List.length_cons, List.length_nil]; omega) ?_; all_goals (try simp only [go_sem, seval, reduceCtorEq, H])) | (refine callK_ofN ?_; simp only [go_sem, seval, reduceCtorEq, H, encF_fold, encF_fold0, Fm.eta, encFs_fold1, encFs_fold2, encFs_fold3]; (first | refine callN_auto ?_ ?_ | refine callN_autoX ?_ ?_); rotate_left; (try simp only [go_sem, seval, reduceCtorEq, H]); rotate_right; (focus (first | assumption | ((repeat (with_reducible refine And.intro ?_ ?_)) <;> first | exact trivial | assumption | exact List.getElem_mem _ | omega | (simp only [go_sem, seval, reduceCtorEq, H]; first | done | omega) | (simp only [List.mem_cons, true_or, or_true]; done) | (simp only [encF_fold, encF_fold0, Fm.eta, encFs_fold1, encFs_fold2, encFs_fold3]; done))))) | (refine callD_ofN ?_; simp only [go_sem, seval, reduceCtorEq, H, encF_fold, encF_fold0, Fm.eta, encFs_fold1, encFs_fold2, encFs_fold3]; (first | refine callDN_auto ?_ ?_ | refine callDN_autoX ?_ ?_); rotate_left; (try simp only [go_sem, seval, reduceCtorEq, H]); rotate_right; (focus (first | assumption | ((repeat (with_reducible refine And.intro ?_ ?_)) <;> first | exact trivial | assumption | exact List.getElem_mem _ | omega | (simp only [go_sem, seval, reduceCtorEq, H]; first | done | omega) | (simp only [List.mem_cons, true_or, or_true]; done) | (simp only [encF_fold, encF_fold0, Fm.eta, encFs_fold1, encFs_fold2, encFs_fold3]; done))))) | ((with_reducible refine And.intro ?_ ?_); (focus (first | assumption | ((repeat (with_reducible refine And.intro ?_ ?_)) <;> first | exact trivial | assumption | exact List.getElem_mem _ | omega | (simp only [go_sem, seval, reduceCtorEq, H]; first | done | omega) | (simp only [List.mem_cons, true_or, or_true]; done) | (simp only [encF_fold, encF_fold0, Fm.eta, encFs_fold1, encFs_fold2, encFs_fold3]; done))))) | simp only [go_sem, seval, reduceCtorEq, H] | omega)
  all_goals exact hq.q) (u : Dmy Q := by first | exact (Dmy.mk : Dmy True) | exact Dmy.mk) : P := k ⟨h⟩
theorem cutA {σ σ' σ1 : Sto} (h : Cut σ σ' σ1 := by
  refine Cut.by' (by first | exact Nat.le_refl _ | (simp only [Sto.get_mv, Sto.next_mv, Sto.get_add, Sto.get_set, Sto.get_del, Sto.get_none, Sto.next_add, Sto.next_set, Sto.next_del, Sto.next_none]; omega)) (by first | exact Nat.le_refl _ | (simp only [Sto.get_mv, Sto.next_mv, Sto.get_add, Sto.get_set, Sto.get_del, Sto.get_none, Sto.next_add, Sto.next_set, Sto.next_del, Sto.next_none]; omega)) (fun i hi => ?_) (fun i o hi ho => ?_)
  · (try simp only [Sto.get_mv, Sto.next_mv, Sto.get_add, Sto.get_set, Sto.get_del, Sto.get_none, Sto.next_add, Sto.next_set, Sto.next_del, Sto.next_none] at hi ⊢); ((repeat' split) <;> first | exact .inl rfl | exact .inr rfl | omega | (simp_all; done))
  · (try simp only [Sto.get_mv, Sto.next_mv, Sto.get_add, Sto.get_set, Sto.get_del, Sto.get_none, Sto.next_add, Sto.next_set, Sto.next_del, Sto.next_none] at hi ho ⊢); ((repeat' split at ho) <;> (repeat' split) <;> first | (exact ⟨ho, .inl ho⟩) | (cases ho; done) | omega | (cases ho; refine ⟨rfl, .inl rfl⟩) | (cases ho; refine ⟨rfl, .inr ?_⟩; simp only [go_sem, seval, reduceCtorEq, H]; first | done | omega | (refine ⟨?_, ?_⟩ <;> omega)) | (simp_all; done))) : Cut σ σ' σ1 := h
theorem rangeA {C : Cx} {ro : Option Nat} {nt : Nat} {Q : Exit → Env → Sto → Prop} {env : Env} {σ : Sto} {B B2 tc ti tl tn t1 t2 t3 t4 : Nat} {inner : K} (n : Nat) (ts us : List Nat) (V : Nat → List AV) (S : Nat → Sto)
    (step : ∀ i, i < n → WK C ro nt inner (stepX B B2 ti tl n ts us (pick env ts) i V S True Q) (upd (envX env ts (ti :: tl :: us) (.int .i64 i :: .int .i64 n :: V i)) tc (.bool (decide ((i : Int) < (n : Int))))) (S i))
    (done : Q .normal (upd (envX env ts (ti :: tl :: us) (.int .i64 n :: .int .i64 n :: V n)) tc (.bool false)) (S n))
    (hn : n < 9223372036854775807 := by omega)
    (hb : (decide (tc < nt) && decide (ti < nt) && decide (tl < nt) && decide (tn < nt) && ti != tc && tl != tc && ti != tn && tl != tn && tl != ti && ts.all (fun t => !us.contains t && t != ti && t != tn && t != tl) && us.all (fun t => t != ti && t != tn && t != tl)) = true := by decide)
    (hi : env ti = .int .i64 0 := by simp only [go_sem, seval, reduceCtorEq, H]) (hl : env tl = .int .i64 n := by simp only [go_sem, seval, reduceCtorEq, H]) (h0 : leX env us (V 0) := by simp only [go_sem, seval, reduceCtorEq, H, List.take_zero])
    (hS : S 0 = σ := by first | rfl | (simp only [go_sem, seval, reduceCtorEq, H, List.take_zero]; done) | (refine Sto.ext' (by simp only [go_sem, seval, reduceCtorEq, H]) (fun i => ?_); simp only [go_sem, seval, reduceCtorEq, H]; repeat' split; all_goals (first | rfl | omega | simp_all))) :
    WK C ro nt (.block B (.loop (.seq (.reg [⟨some tc, .binOp .lss t1 (.tmp ti) (.tmp tl) t2, none⟩])
      (.seq (.cond (.tmp tc) .skip (.exit B)) (.seq (.block B2 inner) (.reg [⟨some tn, .binOp .add t3 (.tmp ti) (.const (.int .i64 1)) t4, none⟩, ⟨some ti, .move (.tmp tn), none⟩])))))) Q env σ :=
  WK.rangeX n ts us V S hn hb hi hl h0 hS step done
theorem rangeAI {C : Cx} {ro : Option Nat} {nt : Nat} {Q : Exit → Env → Sto → Prop} {env : Env} {σ : Sto} {B B2 tc ti tl tn t1 t2 t3 t4 : Nat} {inner : K} (n : Nat) (ts us : List Nat) (V : Nat → List AV) (S : Nat → Sto) (I : Nat → Prop)
    (step : ∀ i, i < n → I i → WK C ro nt inner (stepX B B2 ti tl n ts us (pick env ts) i V S (I (i + 1)) Q) (upd (envX env ts (ti :: tl :: us) (.int .i64 i :: .int .i64 n :: V i)) tc (.bool (decide ((i : Int) < (n : Int))))) (S i))
    (done : I n → Q .normal (upd (envX env ts (ti :: tl :: us) (.int .i64 n :: .int .i64 n :: V n)) tc (.bool false)) (S n))
    (hI0 : I 0 := by simp)
    (hn : n < 9223372036854775807 := by omega)
    (hb : (decide (tc < nt) && decide (ti < nt) && decide (tl < nt) && decide (tn < nt) && ti != tc && tl != tc && ti != tn && tl != tn && tl != ti && ts.all (fun t => !us.contains t && t != ti && t != tn && t != tl) && us.all (fun t => t != ti && t != tn && t != tl)) = true := by decide)
    (hi : env ti = .int .i64 0 := by simp only [go_sem, seval, reduceCtorEq, H]) (hl : env tl = .int .i64 n := by simp only [go_sem, seval, reduceCtorEq, H]) (h0 : leX env us (V 0) := by simp only [go_sem, seval, reduceCtorEq, H, List.take_zero])
    (hS : S 0 = σ := by first | rfl | (simp only [go_sem, seval, reduceCtorEq, H, List.take_zero]; done) | (refine Sto.ext' (by simp only [go_sem, seval, reduceCtorEq, H]) (fun i => ?_); simp only [go_sem, seval, reduceCtorEq, H]; repeat' split; all_goals (first | rfl | omega | simp_all))) :
    WK C ro nt (.block B (.loop (.seq (.reg [⟨some tc, .binOp .lss t1 (.tmp ti) (.tmp tl) t2, none⟩])
      (.seq (.cond (.tmp tc) .skip (.exit B)) (.seq (.block B2 inner) (.reg [⟨some tn, .binOp .add t3 (.tmp ti) (.const (.int .i64 1)) t4, none⟩, ⟨some ti, .move (.tmp tn), none⟩])))))) Q env σ :=
  WK.rangeI n ts us V S I hI0 hn hb hi hl h0 hS step done
end Go.Lg
/- Lg, part Aw: shorter steps of the walks, as default tactics. H is the name of what they may use. -/
namespace Go.Lg
open Go.RowKit
theorem encFs_cs (f : Fm) (l : List Fm) : encFs (f :: l) = encF f :: encFs l := (rfl)
theorem goB {P Q : Prop} (h : Q) (k : Wr Q → P := by
  intro hq
  try simp only [go_sem, seval, reduceCtorEq, H]
  repeat (first | refine WK.blockSeq ?_ | refine WK.blockCond ?_ | refine WK.blockReg ?_ | (refine WK.condT ?_ ?_; (focus (simp only [go_sem, seval, reduceCtorEq, H]; done))) | (refine WK.condF ?_ ?_; (focus (simp only [go_sem, seval, reduceCtorEq, H]; done))) | refine WK.seq ?_ | ((first | refine WK.reg ?_ | refine WK.skip ?_ | refine WK.ret ?_ | refine WK.exit ?_); simp only [go_sem, seval, reduceCtorEq, H]) | ((with_reducible refine And.intro ?_ ?_); (focus omega)) | omega)
  all_goals exact hq.q) (u : Dmy Q := by first | exact (Dmy.mk : Dmy True) | exact Dmy.mk) : P := k ⟨h⟩
theorem ngB {P Q : Prop} (h : Q) (k : Wr Q → P := by
  intro hq
  try simp only [go_sem, seval, reduceCtorEq, H]
  repeat (first | refine WK.blockSeq ?_ | refine WK.blockCond ?_ | refine WK.blockReg ?_ | (refine WK.condT ?_ ?_; (focus (simp only [go_sem, seval, reduceCtorEq, H]; done))) | (refine WK.condF ?_ ?_; (focus (simp only [go_sem, seval, reduceCtorEq, H]; done))) | refine WK.seq ?_ | ((with_reducible refine And.intro ?_ ?_); (focus omega)))
  all_goals exact hq.q) (u : Dmy Q := by first | exact (Dmy.mk : Dmy True) | exact Dmy.mk) : P := k ⟨h⟩
theorem appB {P Q : Prop} (h : Q) (k : Wr Q → P := by
  intro hq
  refine appK_own (f := _) (by simp only [go_sem, seval, reduceCtorEq, H]; rfl) (by simp only [go_sem, seval, reduceCtorEq, H]; rfl) (by simp only [go_sem, seval, reduceCtorEq, H]; rfl) (by simp only [go_sem, seval, reduceCtorEq, H]) (by simp only [go_sem, seval, reduceCtorEq, H, List.length_map, List.length_take, List.length_range, List.length_append, List.length_cons, List.length_nil]; first | done | omega) ?_ (by simp only [go_sem, seval, reduceCtorEq, H]; rfl) (by simp only [go_sem, seval, reduceCtorEq, H]) ?_ (by kernel_rfl) (by simp only [go_sem, seval, reduceCtorEq, H, List.length_map, List.length_take, List.length_range, List.length_append, List.length_cons, List.length_nil]; first | done | omega) (by simp only [go_sem, seval, reduceCtorEq, H, List.length_map, List.length_take, List.length_range, List.length_append, List.length_cons, List.length_nil]; first | done | omega) ?_
  all_goals (try simp only [go_sem, seval, reduceCtorEq, H])
  all_goals (try (refine okes_map fun _ => ?_; simp only [go_sem, seval, reduceCtorEq, H]; done))
  all_goals exact hq.q) (u : Dmy Q := by first | exact (Dmy.mk : Dmy True) | exact Dmy.mk) : P := k ⟨h⟩
theorem appBd {P Q : Prop} (h : Q) (k : Wr Q → P := by
  intro hq
  refine appD_own (f := _) (by simp only [go_sem, seval, reduceCtorEq, H]; rfl) (by simp only [go_sem, seval, reduceCtorEq, H]; rfl) (by simp only [go_sem, seval, reduceCtorEq, H]; rfl) (by simp only [go_sem, seval, reduceCtorEq, H]) (by simp only [go_sem, seval, reduceCtorEq, H, List.length_map, List.length_take, List.length_range, List.length_append, List.length_cons, List.length_nil]; first | done | omega) ?_ (by simp only [go_sem, seval, reduceCtorEq, H]; rfl) (by simp only [go_sem, seval, reduceCtorEq, H]) ?_ (by kernel_rfl) (by simp only [go_sem, seval, reduceCtorEq, H, List.length_map, List.length_take, List.length_range, List.length_append, List.length_cons, List.length_nil]; first | done | omega) (by simp only [go_sem, seval, reduceCtorEq, H, List.length_map, List.length_take, List.length_range, List.length_append, List.length_cons, List.length_nil]; first | done | omega) ?_
  all_goals (try simp only [go_sem, seval, reduceCtorEq, H])
  all_goals (try (refine okes_map fun _ => ?_; simp only [go_sem, seval, reduceCtorEq, H]; done))
  all_goals exact hq.q) (u : Dmy Q := by first | exact (Dmy.mk : Dmy True) | exact Dmy.mk) : P := k ⟨h⟩
end Go.Lg
