import Derived.Test.YtndchmmclfidgaaDoorTlD
set_option maxRecDepth 100000
set_option linter.unusedSimpArgs false
set_option linter.unusedVariables false
set_option linter.unnecessarySimpa false
namespace Go.Lg
open Go.RowKit
/-- The operation at hand panics; the temporaries are known. -/
def panV (C : Cx) (nt : Nat) (r : Option RO) (K : List PanicEntry → Env → Sto → Prop) (env : Env) (σ : Sto) : Prop := panR C nt r (fun ch σ' => K ch env σ') env σ
theorem W.regV {C : Cx} {ro : Option Nat} {nt : Nat} {Q : Exit → Env → Sto → Prop} {env : Env} {σ : Sto} {id : Nat} {ops : Array Oper} (n : Nat)
    (h : wpr C nt ((ops.toList.map (roOf ops)).take n) (panV C nt (ops.toList.map (roOf ops))[n]? fun ch env' σ' => Q (.panic ch) env' σ') env σ) : W C ro nt (.region id ops false) Q env σ := by
  have hmt : (ops.toList.map (roOf ops)).take n = (ops.toList.take n).map (roOf ops) := by rw [List.map_take]
  rw [hmt] at h
  obtain ⟨env1, σ1, h1, op, d, hr, ch, σ', h2, h3⟩ := wpr_soundP (ops.toList.take n) 0 _ env σ (by rw [List.drop_zero, List.length_take]; simp [List.take_eq_take_iff]) h
  rw [List.getElem?_map] at hr
  obtain ⟨o, ho, hro⟩ := Option.map_eq_some_iff.1 hr
  rw [Array.getElem?_toList] at ho
  have hn : n < ops.size := (Array.getElem?_eq_some_iff.1 ho).1
  have hop : o.op = op := by have := congrArg RO.op hro; exact this
  have hgd : o.guard = none := by
    have := congrArg RO.gd hro
    simp only [roOf] at this
    cases hg : o.guard with
    | none => rfl
    | some p => rw [hg] at this; cases this
  refine ⟨.panic ch, env1, σ', fun w0 G a w hrel cr hcr => ?_, h3⟩
  have hlen : (ops.toList.take n).length = n := by rw [List.length_take, Array.length_toList]; omega
  rw [hlen] at h1
  have hsplit : List.range ops.size = List.range' 0 n ++ (n :: List.range' (n + 1) (ops.size - n - 1)) := by
    rw [← List.range'_succ, List.range_eq_range']
    have : ops.size = n + (ops.size - n - 1 + 1) := by omega
    conv => lhs; rw [this]
    rw [← List.range'_append_1]; simp
  refine wpIn_region ?_
  rw [hsplit]
  refine h1 cr w0 G a w hrel _ _ fun G' a' w' hr' he' hd' => ?_
  show wpOpsIn _ _ _ _ _ (n :: _) _ _
  simp only [wpOpsIn, ho]
  have hw : Region.wanted o (yielded ops a'.tmps) = true := by simp [Region.wanted, hgd]
  rw [if_pos hw]
  refine h2 o hop cr w0 G' a' w' hr'.inv (fun x _ => hr'.env.ev hr'.inv x) _ _ fun G2 w2 hi2 he2 => ?_
  exact ⟨rfl, G2, [], ⟨hi2, hr'.env.mono he2.le⟩, he'.trans he2, by simpa using hd', Marks.nil⟩

theorem WK.regV {C : Cx} {ro : Option Nat} {nt : Nat} {Q : Exit → Env → Sto → Prop} {env : Env} {σ : Sto} {ros : List RO} (n : Nat)
    (h : wpr C nt (ros.take n) (panV C nt ros[n]? fun ch env' σ' => Q (.panic ch) env' σ') env σ) : WK C ro nt (.reg ros) Q env σ := by
  intro c hc
  cases c with
  | region id ops d =>
    cases d with
    | false =>
      simp only [toK, K.reg.injEq] at hc
      subst hc
      exact W.regV n h
    | true => cases hc
  | _ => cases hc

end Go.Lg
namespace Go.Sx
open Go Go.Lg Go.Proofs
def parO (o : Option (Fm × List Bs)) : Fm × Int :=
  match o with
  | some (f, l) => parA f l
  | none => (.mk 0 0 [], 4)
/-- What Parse answers. -/
def parseS (ns : List Bs) (text : Bs) : Fm × Int :=
  if namedS ns ≠ 0 then (.mk 0 0 [], namedS ns) else if text.length > 16384 then (.mk 0 0 [], 3) else parO (parT ns (.bin 1) (toksS text))
section
variable {gl : GL}
theorem parse1_pan (σ : Sto) (c0 c1 : List AV) (h0 : σ.get 0 = some (.box c0)) (h1 : σ.get 1 = some (.box c1)) (l0 : c0.length = 3) (l1 : c1.length = 1) (hn : 1 < σ.next) :
    CallDD (C gl) 95 [.ptr 0 0, .ptr 1 0] (.panicking (panE 129)) σ ((σ.set 0 (.box [.int .i64 0, .int .i64 0, .list true []])).set 1 (.box [.int .i64 4])) := by
  refine callDD_of b95 (by simp [Tryd.ntmps95]) rfl rfl rfl rfl (.inr ⟨129, rfl, rfl, rfl⟩) ?_
  rw [Tryd.ntmps95]
  simp only [toK, go_sem, seval, reduceCtorEq]
  refine NK.block (NK.seq (NK.reg ?_))
  have e3 : c0.drop 3 = [] := List.drop_of_length_le (by omega)
  have e1 : c1.drop 1 = [] := List.drop_of_length_le (by omega)
  have nz_0 : (0 = σ.next) = False := by simp; omega
  have nx_0 : ∀ j, (0 = σ.next + j) = False := fun j => by simp; omega
  have nz_1 : (1 = σ.next) = False := by simp; omega
  have nx_1 : ∀ j, (1 = σ.next + j) = False := fun j => by simp; omega
  simp only [go_sem, seval, reduceCtorEq, inBlk_normal, andN_normal]
  refine NK.cond false (by simp only [go_sem, seval, reduceCtorEq]) (fun h => by cases h) (fun _ => ?_)
  refine NK.seq (NK.reg ?_)
  simp only [go_sem, seval, reduceCtorEq, nz_0, nx_0, nz_1, nx_1, h0, h1, l0, l1, e3, e1]
  refine NK.cond true (by simp only [go_sem, seval, reduceCtorEq]) (fun _ => ?_) (fun h => by cases h)
  refine NK.seq (NK.reg ?_)
  simp only [go_sem, seval, reduceCtorEq, nz_0, nx_0, nz_1, nx_1, h0, h1, l0, l1, e3, e1]
  refine NK.reg ?_
  simp only [go_sem, seval, reduceCtorEq, nz_0, nx_0, nz_1, nx_1, h0, h1, l0, l1, e3, e1]
  refine Cut.by' (by first | exact Nat.le_refl _ | (simp only [Sto.get_add, Sto.get_set, Sto.get_del, Sto.get_none, Sto.next_add, Sto.next_set, Sto.next_del, Sto.next_none]; omega)) (by first | exact Nat.le_refl _ | (simp only [Sto.get_add, Sto.get_set, Sto.get_del, Sto.get_none, Sto.next_add, Sto.next_set, Sto.next_del, Sto.next_none]; omega)) (fun i hi => ?_) (fun i o hi ho => ?_)
  · (try simp only [Sto.get_add, Sto.get_set, Sto.get_del, Sto.get_none, Sto.next_add, Sto.next_set, Sto.next_del, Sto.next_none] at hi ⊢); ((repeat' split) <;> first | exact .inl rfl | exact .inr rfl | omega | (simp_all; done))
  · (try simp only [Sto.get_add, Sto.get_set, Sto.get_del, Sto.get_none, Sto.next_add, Sto.next_set, Sto.next_del, Sto.next_none] at hi ho ⊢); ((repeat' split at ho) <;> (repeat' split) <;> first | (exact ⟨ho, .inl ho⟩) | (cases ho; done) | omega | (cases ho; refine ⟨rfl, .inl rfl⟩) | (cases ho; refine ⟨rfl, .inr ?_⟩; simp only [go_sem, seval, reduceCtorEq, nz_0, nx_0, nz_1, nx_1, h0, h1, l0, l1, e3, e1]; first | done | omega | (refine ⟨?_, ?_⟩ <;> omega)) | (simp_all; done))
theorem parse_bad (hsg : gl.at' 3 = signsA) (har : gl.at' 0 = arityA) (hst : gl.at' 1 = strengthA) (hri : gl.at' 2 = rightA)
    (ns : List Bs) (text : Bs) (hns : ns.length < 1000000) (hnl : ∀ s ∈ ns, s.length < 1000000000) (hn : namedS ns = 0) (hl : text.length ≤ 16384) (hp : parT ns (.bin 1) (toksS text) = none) :
    PCall (C gl) 37 [.list false (ns.map encT), .str (tx text)] (.tup [encF (.mk 0 0 []), .int .i64 4]) := by
  refine pcallX (callX_T b37 (by simp [Tryd.ntmps37]) ?_) (by simp only [AllCl, cl_str, cl_list, and_true]; exact of_eq_true (clE_T _)) (by simp only [cl_tup, AllCl, cl_encF, cl_int, and_true])
  simp only [Tryd.f37, codeOf]
  have hb0 : decide ((text.length : Int) > 16384) = false := by simp; omega
  refine T0.seq (T0.ofW (W.of ?_))
  simp only [toK, go_sem, seval, reduceCtorEq]
  try simp only [go_sem, seval, reduceCtorEq, hb0, List.length_map]
  repeat (first | refine WK.blockSeq ?_ | refine WK.blockCond ?_ | refine WK.blockReg ?_ | (refine WK.condT ?_ ?_; (focus (simp only [go_sem, seval, reduceCtorEq, hb0, List.length_map]; done))) | (refine WK.condF ?_ ?_; (focus (simp only [go_sem, seval, reduceCtorEq, hb0, List.length_map]; done))) | refine WK.seq ?_ | ((first | refine WK.reg ?_ | refine WK.skip ?_ | refine WK.ret ?_ | refine WK.exit ?_); simp only [go_sem, seval, reduceCtorEq, hb0, List.length_map]) | ((with_reducible refine And.intro ?_ ?_); omega) | omega)
  refine T0.seq (T0.ofW (W.of ?_))
  simp only [toK, go_sem, seval, reduceCtorEq]
  try simp only [go_sem, seval, reduceCtorEq, hb0, List.length_map]
  repeat (first | refine WK.blockSeq ?_ | refine WK.blockCond ?_ | refine WK.blockReg ?_ | (refine WK.condT ?_ ?_; (focus (simp only [go_sem, seval, reduceCtorEq, hb0, List.length_map]; done))) | (refine WK.condF ?_ ?_; (focus (simp only [go_sem, seval, reduceCtorEq, hb0, List.length_map]; done))) | refine WK.seq ?_ | ((first | refine WK.reg ?_ | refine WK.skip ?_ | refine WK.ret ?_ | refine WK.exit ?_); simp only [go_sem, seval, reduceCtorEq, hb0, List.length_map]) | ((with_reducible refine And.intro ?_ ?_); omega) | omega)
  refine callK_pureL (named_ok (gl := gl) ns (by omega) hnl) rfl ?_ ?_ ?_ <;> simp only [go_sem, seval, reduceCtorEq, hb0, List.length_map]
  try simp only [go_sem, seval, reduceCtorEq, hb0, List.length_map, hn, bne]
  repeat (first | refine WK.blockSeq ?_ | refine WK.blockCond ?_ | refine WK.blockReg ?_ | (refine WK.condT ?_ ?_; (focus (simp only [go_sem, seval, reduceCtorEq, hb0, List.length_map, hn, bne]; done))) | (refine WK.condF ?_ ?_; (focus (simp only [go_sem, seval, reduceCtorEq, hb0, List.length_map, hn, bne]; done))) | refine WK.seq ?_ | ((first | refine WK.reg ?_ | refine WK.skip ?_ | refine WK.ret ?_ | refine WK.exit ?_); simp only [go_sem, seval, reduceCtorEq, hb0, List.length_map, hn, bne]) | ((with_reducible refine And.intro ?_ ?_); omega) | omega)
  refine T0.seq (T0.ofW (W.of ?_))
  simp only [toK, go_sem, seval, reduceCtorEq]
  try simp only [go_sem, seval, reduceCtorEq, hb0, List.length_map]
  repeat (first | refine WK.blockSeq ?_ | refine WK.blockCond ?_ | refine WK.blockReg ?_ | (refine WK.condT ?_ ?_; (focus (simp only [go_sem, seval, reduceCtorEq, hb0, List.length_map]; done))) | (refine WK.condF ?_ ?_; (focus (simp only [go_sem, seval, reduceCtorEq, hb0, List.length_map]; done))) | refine WK.seq ?_ | ((first | refine WK.reg ?_ | refine WK.skip ?_ | refine WK.ret ?_ | refine WK.exit ?_); simp only [go_sem, seval, reduceCtorEq, hb0, List.length_map]) | ((with_reducible refine And.intro ?_ ?_); omega) | omega)
  refine T0.seq (T0.defer 1 rfl ?_)
  simp only [toK, go_sem, seval, reduceCtorEq]
  refine ⟨_, _, _, _, rfl, rfl, ?_⟩
  simp only [go_sem, seval, reduceCtorEq]
  refine W.of ?_
  simp only [toK, go_sem, seval, reduceCtorEq]
  try simp only [go_sem, seval, reduceCtorEq, hb0, List.length_map]
  repeat (first | refine WK.blockSeq ?_ | refine WK.blockCond ?_ | refine WK.blockReg ?_ | (refine WK.condT ?_ ?_; (focus (simp only [go_sem, seval, reduceCtorEq, hb0, List.length_map]; done))) | (refine WK.condF ?_ ?_; (focus (simp only [go_sem, seval, reduceCtorEq, hb0, List.length_map]; done))) | refine WK.seq ?_ | (with_reducible refine And.intro ?_ ?_; focus omega))
  first | refine WK.reg ?_ | refine WK.skip ?_ | refine WK.ret ?_ | refine WK.exit ?_
  simp only [go_sem, seval, reduceCtorEq, hb0, List.length_map]
  refine callK_pureL (tokens_ok (gl := gl) text (by omega)) rfl ?_ ?_ ?_ <;> simp only [go_sem, seval, reduceCtorEq, hb0, List.length_map]
  have hbin := (parseE_all hsg har hst hri (need (.bin 1) (toksS text).length)).2 _ (Nat.le_refl _)
  try simp only [go_sem, seval, reduceCtorEq, hb0, List.length_map, pbox]
  repeat (first | refine WK.blockSeq ?_ | refine WK.blockCond ?_ | refine WK.blockReg ?_ | (refine WK.condT ?_ ?_; (focus (simp only [go_sem, seval, reduceCtorEq, hb0, List.length_map, pbox]; done))) | (refine WK.condF ?_ ?_; (focus (simp only [go_sem, seval, reduceCtorEq, hb0, List.length_map, pbox]; done))) | refine WK.seq ?_ | (with_reducible refine And.intro ?_ ?_; focus omega))
  refine WK.regV 0 ?_
  simp only [List.take_succ_cons, List.take_zero, List.getElem?_cons_succ, List.getElem?_cons_zero, panV, go_sem, seval, reduceCtorEq]
  have hE := hbin 2 ns (toksS text) 1 (((Sto.none.add (.box [.int .i64 0, .int .i64 0, .list true []])).add (.box [.int .i64 0])).add (pbox ns (toksS text))) hp (Nat.le_refl _) hns (Nat.lt_succ_self 2) rfl
  refine panR_x0 hE rfl ?_ ?_ ?_
  · simp only [go_sem, seval, reduceCtorEq]
  · simp only [go_sem, seval, reduceCtorEq]
  · refine ⟨.inr (.inr ⟨_, rfl⟩), _, parse1_pan _ _ _ rfl rfl rfl rfl (Nat.lt_succ_of_lt (Nat.lt_succ_self 1)), ?_⟩
    simp only [go_sem, seval, reduceCtorEq, hb0, List.length_map, pbox]
    exact ⟨AV.le_tup ⟨AV.le_agg ⟨.refl _, .refl _, AV.le_list' _, trivial⟩, .refl _, trivial⟩, cut_none _⟩
theorem parse_named (ns : List Bs) (text : Bs) (hns : ns.length < 1000000) (hnl : ∀ s ∈ ns, s.length < 1000000000) (hn : (namedS ns == 0) = false) :
    PCall (C gl) 37 [.list false (ns.map encT), .str (tx text)] (.tup [encF (.mk 0 0 []), .int .i64 (namedS ns)]) := by
  refine pcallX (callX_T b37 (by simp [Tryd.ntmps37]) ?_) (by simp only [AllCl, cl_str, cl_list, and_true]; exact of_eq_true (clE_T _)) (by simp only [cl_tup, AllCl, cl_encF, cl_int, and_true])
  simp only [Tryd.f37, codeOf]
  refine T0.seq (T0.ofW (W.of ?_))
  simp only [toK, go_sem, seval, reduceCtorEq]
  try simp only [go_sem, seval, reduceCtorEq, List.length_map]
  repeat (first | refine WK.blockSeq ?_ | refine WK.blockCond ?_ | refine WK.blockReg ?_ | (refine WK.condT ?_ ?_; (focus (simp only [go_sem, seval, reduceCtorEq, List.length_map]; done))) | (refine WK.condF ?_ ?_; (focus (simp only [go_sem, seval, reduceCtorEq, List.length_map]; done))) | refine WK.seq ?_ | ((first | refine WK.reg ?_ | refine WK.skip ?_ | refine WK.ret ?_ | refine WK.exit ?_); simp only [go_sem, seval, reduceCtorEq, List.length_map]) | ((with_reducible refine And.intro ?_ ?_); omega) | omega)
  refine T0.seq (T0.ofW (W.of ?_))
  simp only [toK, go_sem, seval, reduceCtorEq]
  try simp only [go_sem, seval, reduceCtorEq, List.length_map]
  repeat (first | refine WK.blockSeq ?_ | refine WK.blockCond ?_ | refine WK.blockReg ?_ | (refine WK.condT ?_ ?_; (focus (simp only [go_sem, seval, reduceCtorEq, List.length_map]; done))) | (refine WK.condF ?_ ?_; (focus (simp only [go_sem, seval, reduceCtorEq, List.length_map]; done))) | refine WK.seq ?_ | ((first | refine WK.reg ?_ | refine WK.skip ?_ | refine WK.ret ?_ | refine WK.exit ?_); simp only [go_sem, seval, reduceCtorEq, List.length_map]) | ((with_reducible refine And.intro ?_ ?_); omega) | omega)
  refine callK_pureL (named_ok (gl := gl) ns (by omega) hnl) rfl ?_ ?_ ?_ <;> simp only [go_sem, seval, reduceCtorEq, List.length_map]
  try simp only [go_sem, seval, reduceCtorEq, List.length_map, hn, bne]
  repeat (first | refine WK.blockSeq ?_ | refine WK.blockCond ?_ | refine WK.blockReg ?_ | (refine WK.condT ?_ ?_; (focus (simp only [go_sem, seval, reduceCtorEq, List.length_map, hn, bne]; done))) | (refine WK.condF ?_ ?_; (focus (simp only [go_sem, seval, reduceCtorEq, List.length_map, hn, bne]; done))) | refine WK.seq ?_ | ((first | refine WK.reg ?_ | refine WK.skip ?_ | refine WK.ret ?_ | refine WK.exit ?_); simp only [go_sem, seval, reduceCtorEq, List.length_map, hn, bne]) | ((with_reducible refine And.intro ?_ ?_); omega) | omega)
  exact ⟨AV.le_tup ⟨AV.le_agg ⟨.refl _, .refl _, AV.le_list' _, trivial⟩, .refl _, trivial⟩, cut_none _⟩
theorem parse_long (ns : List Bs) (text : Bs) (hns : ns.length < 1000000) (hnl : ∀ s ∈ ns, s.length < 1000000000) (hn : namedS ns = 0) (hl : text.length > 16384) :
    PCall (C gl) 37 [.list false (ns.map encT), .str (tx text)] (.tup [encF (.mk 0 0 []), .int .i64 3]) := by
  refine pcallX (callX_T b37 (by simp [Tryd.ntmps37]) ?_) (by simp only [AllCl, cl_str, cl_list, and_true]; exact of_eq_true (clE_T _)) (by simp only [cl_tup, AllCl, cl_encF, cl_int, and_true])
  simp only [Tryd.f37, codeOf]
  have hb0 : decide ((text.length : Int) > 16384) = true := by simp; omega
  refine T0.seq (T0.ofW (W.of ?_))
  simp only [toK, go_sem, seval, reduceCtorEq]
  try simp only [go_sem, seval, reduceCtorEq, hb0, List.length_map]
  repeat (first | refine WK.blockSeq ?_ | refine WK.blockCond ?_ | refine WK.blockReg ?_ | (refine WK.condT ?_ ?_; (focus (simp only [go_sem, seval, reduceCtorEq, hb0, List.length_map]; done))) | (refine WK.condF ?_ ?_; (focus (simp only [go_sem, seval, reduceCtorEq, hb0, List.length_map]; done))) | refine WK.seq ?_ | ((first | refine WK.reg ?_ | refine WK.skip ?_ | refine WK.ret ?_ | refine WK.exit ?_); simp only [go_sem, seval, reduceCtorEq, hb0, List.length_map]) | ((with_reducible refine And.intro ?_ ?_); omega) | omega)
  refine T0.seq (T0.ofW (W.of ?_))
  simp only [toK, go_sem, seval, reduceCtorEq]
  try simp only [go_sem, seval, reduceCtorEq, hb0, List.length_map]
  repeat (first | refine WK.blockSeq ?_ | refine WK.blockCond ?_ | refine WK.blockReg ?_ | (refine WK.condT ?_ ?_; (focus (simp only [go_sem, seval, reduceCtorEq, hb0, List.length_map]; done))) | (refine WK.condF ?_ ?_; (focus (simp only [go_sem, seval, reduceCtorEq, hb0, List.length_map]; done))) | refine WK.seq ?_ | ((first | refine WK.reg ?_ | refine WK.skip ?_ | refine WK.ret ?_ | refine WK.exit ?_); simp only [go_sem, seval, reduceCtorEq, hb0, List.length_map]) | ((with_reducible refine And.intro ?_ ?_); omega) | omega)
  refine callK_pureL (named_ok (gl := gl) ns (by omega) hnl) rfl ?_ ?_ ?_ <;> simp only [go_sem, seval, reduceCtorEq, hb0, List.length_map]
  try simp only [go_sem, seval, reduceCtorEq, hb0, List.length_map, hn, bne]
  repeat (first | refine WK.blockSeq ?_ | refine WK.blockCond ?_ | refine WK.blockReg ?_ | (refine WK.condT ?_ ?_; (focus (simp only [go_sem, seval, reduceCtorEq, hb0, List.length_map, hn, bne]; done))) | (refine WK.condF ?_ ?_; (focus (simp only [go_sem, seval, reduceCtorEq, hb0, List.length_map, hn, bne]; done))) | refine WK.seq ?_ | ((first | refine WK.reg ?_ | refine WK.skip ?_ | refine WK.ret ?_ | refine WK.exit ?_); simp only [go_sem, seval, reduceCtorEq, hb0, List.length_map, hn, bne]) | ((with_reducible refine And.intro ?_ ?_); omega) | omega)
  refine T0.seq (T0.ofW (W.of ?_))
  simp only [toK, go_sem, seval, reduceCtorEq]
  try simp only [go_sem, seval, reduceCtorEq, hb0, List.length_map]
  repeat (first | refine WK.blockSeq ?_ | refine WK.blockCond ?_ | refine WK.blockReg ?_ | (refine WK.condT ?_ ?_; (focus (simp only [go_sem, seval, reduceCtorEq, hb0, List.length_map]; done))) | (refine WK.condF ?_ ?_; (focus (simp only [go_sem, seval, reduceCtorEq, hb0, List.length_map]; done))) | refine WK.seq ?_ | ((first | refine WK.reg ?_ | refine WK.skip ?_ | refine WK.ret ?_ | refine WK.exit ?_); simp only [go_sem, seval, reduceCtorEq, hb0, List.length_map]) | ((with_reducible refine And.intro ?_ ?_); omega) | omega)
  exact ⟨AV.le_tup ⟨AV.le_agg ⟨.refl _, .refl _, AV.le_list' _, trivial⟩, .refl _, trivial⟩, cut_none _⟩
theorem parseS_ok (hsg : gl.at' 3 = signsA) (har : gl.at' 0 = arityA) (hst : gl.at' 1 = strengthA) (hri : gl.at' 2 = rightA)
    (ns : List Bs) (text : Bs) (hns : ns.length < 1000000) (hnl : ∀ s ∈ ns, s.length < 1000000000) :
    PCall (C gl) 37 [.list false (ns.map encT), .str (tx text)] (.tup [encF (parseS ns text).1, .int .i64 (parseS ns text).2]) := by
  unfold parseS
  cases hn : (namedS ns == 0) with
  | false =>
    rw [if_pos (by simpa using hn)]
    exact parse_named ns text hns hnl hn
  | true =>
    have hn := eq_of_beq hn
    rw [if_neg (by simp [hn])]
    by_cases hl : text.length > 16384
    · rw [if_pos hl]
      exact parse_long ns text hns hnl hn hl
    · rw [if_neg hl]
      cases e : parT ns (.bin 1) (toksS text) with
      | none => exact parse_bad hsg har hst hri ns text hns hnl hn (by omega) e
      | some p => exact parse_ok hsg har hst hri ns text _ p.1 p.2 hns hnl hn (by omega) e
end
end Go.Sx
