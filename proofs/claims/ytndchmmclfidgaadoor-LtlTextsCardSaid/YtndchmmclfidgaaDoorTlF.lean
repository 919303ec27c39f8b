import Derived.Test.YtndchmmclfidgaaDoorTlD
set_option maxRecDepth 100000
set_option linter.unusedSimpArgs false
set_option linter.unusedVariables false
set_option linter.unnecessarySimpa false
namespace Go.Lg
open Go.RowKit
/-- The operation at hand panics; the temporaries are known. -/
def panV (C : Cx) (nt : Nat) (r : Option RO) (K : List PanicEntry → Env → Sto → Prop) (env : Env) (σ : Sto) : Prop := panR C nt r (fun ch σ' => K ch env σ') env σ
theorem W.regV {C : Cx} {ro : Option Nat} {nt : Nat} {Q : Exit → Env → Sto → Prop} {env : Env} {σ : Sto} {id : Nat} {ops : Array Oper} (n : Nat)
    (h : wpr C nt ((ops.toList.map (roOf ops)).take n) (panV C nt (ops.toList.map (roOf ops))[n]? fun ch env' σ' => Q (.panic ch) env' σ') env σ) : W C ro nt (.region id ops false) Q env σ := by
  have hmt : (ops.toList.map (roOf ops)).take n = (ops.toList.take n).map (roOf ops) := by rw [List.map_take]
  rw [hmt] at h
  obtain ⟨env1, σ1, h1, op, d, hr, ch, σ', h2, h3⟩ := wpr_soundP (ops.toList.take n) 0 _ env σ (by rw [List.drop_zero, List.length_take]; simp [List.take_eq_take_iff]) h
  rw [List.getElem?_map] at hr
  obtain ⟨o, ho, hro⟩ := Option.map_eq_some_iff.1 hr
  rw [Array.getElem?_toList] at ho
  have hn : n < ops.size := (Array.getElem?_eq_some_iff.1 ho).1
  have hop : o.op = op := by have := congrArg RO.op hro; exact this
  have hgd : o.guard = none := by
    have := congrArg RO.gd hro
    simp only [roOf] at this
    cases hg : o.guard with
    | none => rfl
    | some p => rw [hg] at this; cases this
  refine ⟨.panic ch, env1, σ', fun w0 G a w hrel cr hcr => ?_, h3⟩
  have hlen : (ops.toList.take n).length = n := by rw [List.length_take, Array.length_toList]; omega
  rw [hlen] at h1
  have hsplit : List.range ops.size = List.range' 0 n ++ (n :: List.range' (n + 1) (ops.size - n - 1)) := by
    rw [← List.range'_succ, List.range_eq_range']
    have : ops.size = n + (ops.size - n - 1 + 1) := by omega
    conv => lhs; rw [this]
    rw [← List.range'_append_1]; simp
  refine wpIn_region ?_
  rw [hsplit]
  refine h1 cr w0 G a w hrel _ _ fun G' a' w' hr' he' hd' => ?_
  show wpOpsIn _ _ _ _ _ (n :: _) _ _
  simp only [wpOpsIn, ho]
  have hw : Region.wanted o (yielded ops a'.tmps) = true := by simp [Region.wanted, hgd]
  rw [if_pos hw]
  refine h2 o hop cr w0 G' a' w' hr'.inv (fun x _ => hr'.env.ev hr'.inv x) _ _ fun G2 w2 hi2 he2 => ?_
  exact ⟨rfl, G2, [], ⟨hi2, hr'.env.mono he2.le⟩, he'.trans he2, by simpa using hd', Marks.nil⟩

theorem WK.regV {C : Cx} {ro : Option Nat} {nt : Nat} {Q : Exit → Env → Sto → Prop} {env : Env} {σ : Sto} {ros : List RO} (n : Nat)
    (h : wpr C nt (ros.take n) (panV C nt ros[n]? fun ch env' σ' => Q (.panic ch) env' σ') env σ) : WK C ro nt (.reg ros) Q env σ := by
  intro c hc
  cases c with
  | region id ops d =>
    cases d with
    | false =>
      simp only [toK, K.reg.injEq] at hc
      subst hc
      exact W.regV n h
    | true => cases hc
  | _ => cases hc

end Go.Lg
namespace Go.Sx
open Go Go.Lg Go.Proofs
def parO (o : Option (Fm × List Bs)) : Fm × Int :=
  match o with
  | some (f, l) => parA f l
  | none => (.mk 0 0 [], 4)
/-- What Parse answers. -/
def parseS (ns : List Bs) (text : Bs) : Fm × Int :=
  if namedS ns ≠ 0 then (.mk 0 0 [], namedS ns) else if text.length > 16384 then (.mk 0 0 [], 3) else parO (parT ns (.bin 1) (toksS text))
section
variable {gl : GL}
theorem parse1_pan (σ : Sto) (c0 c1 : List AV) (h0 : σ.get 0 = some (.box c0)) (h1 : σ.get 1 = some (.box c1)) (l0 : c0.length = 3) (l1 : c1.length = 1) (hn : 1 < σ.next) :
    CallDD (C gl) 95 [.ptr 0 0, .ptr 1 0] (.panicking (panE 129)) σ ((σ.set 0 (.box [.int .i64 0, .int .i64 0, .list true []])).set 1 (.box [.int .i64 4])) := by
  refine callDD_of b95 (by simp [Tryd.ntmps95]) rfl rfl rfl rfl (.inr ⟨129, rfl, rfl, rfl⟩) ?_
  rw [Tryd.ntmps95]
  simp only [toK, go_sem, seval, reduceCtorEq]
  refine NK.block (NK.seq (NK.reg ?_))
  have e3 : c0.drop 3 = [] := List.drop_of_length_le (by omega)
  have e1 : c1.drop 1 = [] := List.drop_of_length_le (by omega)
  have nz_0 : (0 = σ.next) = False := by simp; omega
  have nx_0 : ∀ j, (0 = σ.next + j) = False := fun j => by simp; omega
  have nz_1 : (1 = σ.next) = False := by simp; omega
  have nx_1 : ∀ j, (1 = σ.next + j) = False := fun j => by simp; omega
  simp only [go_sem, seval, reduceCtorEq, inBlk_normal, andN_normal]
  refine NK.cond false (by simp only [go_sem, seval, reduceCtorEq]) (fun h => by cases h) (fun _ => ?_)
  refine NK.seq (NK.reg ?_)
  simp only [go_sem, seval, reduceCtorEq, nz_0, nx_0, nz_1, nx_1, h0, h1, l0, l1, e3, e1]
  refine NK.cond true (by simp only [go_sem, seval, reduceCtorEq]) (fun _ => ?_) (fun h => by cases h)
  refine NK.seq (NK.reg ?_)
  simp only [go_sem, seval, reduceCtorEq, nz_0, nx_0, nz_1, nx_1, h0, h1, l0, l1, e3, e1]
  refine NK.reg ?_
  simp only [go_sem, seval, reduceCtorEq, nz_0, nx_0, nz_1, nx_1, h0, h1, l0, l1, e3, e1]
  refine Cut.by' (by first | exact Nat.le_refl _ | (simp only [Sto.get_add, Sto.get_set, Sto.get_del, Sto.get_none, Sto.next_add, Sto.next_set, Sto.next_del, Sto.next_none]; omega)) (by first | exact Nat.le_refl _ | (simp only [Sto.get_add, Sto.get_set, Sto.get_del, Sto.get_none, Sto.next_add, Sto.next_set, Sto.next_del, Sto.next_none]; omega)) (fun i hi => ?_) (fun i o hi ho => ?_)
  · (try simp only [Sto.get_add, Sto.get_set, Sto.get_del, Sto.get_none, Sto.next_add, Sto.next_set, Sto.next_del, Sto.next_none] at hi ⊢); ((repeat' split) <;> first | exact .inl rfl | exact .inr rfl | omega | (simp_all; done))
  · (try simp only [Sto.get_add, Sto.get_set, Sto.get_del, Sto.get_none, Sto.next_add, Sto.next_set, Sto.next_del, Sto.next_none] at hi ho ⊢); ((repeat' split at ho) <;> (repeat' split) <;> first | (exact ⟨ho, .inl ho⟩) | (cases ho; done) | omega | (cases ho; refine ⟨rfl, .inl rfl⟩) | (cases ho; refine ⟨rfl, .inr ?_⟩; simp only [go_sem, seval, reduceCtorEq, nz_0, nx_0, nz_1, nx_1, h0, h1, l0, l1, e3, e1]; first | done | omega | (refine ⟨?_, ?_⟩ <;> omega)) | (simp_all; done))
theorem parse_bad (hsg : gl.at' 3 = signsA) (har : gl.at' 0 = arityA) (hst : gl.at' 1 = strengthA) (hri : gl.at' 2 = rightA)
    (ns : List Bs) (text : Bs) (hns : ns.length < 1000000) (hnl : ∀ s ∈ ns, s.length < 1000000000) (hn : namedS ns = 0) (hl : text.length ≤ 16384) (hp : parT ns (.bin 1) (toksS text) = none) :
    PCall (C gl) 37 [.list false (ns.map encT), .str (tx text)] (.tup [encF (.mk 0 0 []), .int .i64 4]) := by
  refine pcallX (callX_T b37 (by simp [Tryd.ntmps37]) ?_) (by simp only [AllCl, cl_str, cl_list, and_true]; exact of_eq_true (clE_T _)) (by simp only [cl_tup, AllCl, cl_encF, cl_int, and_true])
  simp only [Tryd.f37, codeOf]
  have hb0 : decide ((text.length : Int) > 16384) = false := by simp; omega
  refine T0.seq (T0.ofW (W.of ?_))
  simp only [toK, go_sem, seval, reduceCtorEq]
  try simp only [go_sem, seval, reduceCtorEq, hb0, List.length_map]
  repeat (first | refine WK.blockSeq ?_ | refine WK.blockCond ?_ | refine WK.blockReg ?_ | (refine WK.condT ?_ ?_; (focus (simp only [go_sem, seval, reduceCtorEq, hb0, List.length_map]; done))) | (refine WK.condF ?_ ?_; (focus (simp only [go_sem, seval, reduceCtorEq, hb0, List.length_map]; done))) | refine WK.seq ?_ | ((first | refine WK.reg ?_ | refine WK.skip ?_ | refine WK.ret ?_ | refine WK.exit ?_); simp only [go_sem, seval, reduceCtorEq, hb0, List.length_map]) | ((with_reducible refine And.intro ?_ ?_); omega) | omega)
  refine T0.seq (T0.ofW (W.of ?_))
  simp only [toK, go_sem, seval, reduceCtorEq]
  try simp only [go_sem, seval, reduceCtorEq, hb0, List.length_map]
  repeat (first | refine WK.blockSeq ?_ | refine WK.blockCond ?_ | refine WK.blockReg ?_ | (refine WK.condT ?_ ?_; (focus (simp only [go_sem, seval, reduceCtorEq, hb0, List.length_map]; done))) | (refine WK.condF ?_ ?_; (focus (simp only [go_sem, seval, reduceCtorEq, hb0, List.length_map]; done))) | refine WK.seq ?_ | ((first | refine WK.reg ?_ | refine WK.skip ?_ | refine WK.ret ?_ | refine WK.exit ?_); simp only [go_sem, seval, reduceCtorEq, hb0, List.length_map]) | ((with_reducible refine And.intro ?_ ?_); omega) | omega)
  refine callK_pureL (named_ok (gl := gl) ns (by omega) hnl) rfl ?_ ?_ ?_ <;> simp only [go_sem, seval, reduceCtorEq, hb0, List.length_map]
  try simp only [go_sem, seval, reduceCtorEq, hb0, List.length_map, hn, bne]
  repeat (first | refine WK.blockSeq ?_ | refine WK.blockCond ?_ | refine WK.blockReg ?_ | (refine WK.condT ?_ ?_; (focus (simp only [go_sem, seval, reduceCtorEq, hb0, List.length_map, hn, bne]; done))) | (refine WK.condF ?_ ?_; (focus (simp only [go_sem, seval, reduceCtorEq, hb0, List.length_map, hn, bne]; done))) | refine WK.seq ?_ | ((first | refine WK.reg ?_ | refine WK.skip ?_ | refine WK.ret ?_ | refine WK.exit ?_); simp only [go_sem, seval, reduceCtorEq, hb0, List.length_map, hn, bne]) | ((with_reducible refine And.intro ?_ ?_); omega) | omega)
  refine T0.seq (T0.ofW (W.of ?_))
  simp only [toK, go_sem, seval, reduceCtorEq]
  try simp only [go_sem, seval, reduceCtorEq, hb0, List.length_map]
  repeat (first | refine WK.blockSeq ?_ | refine WK.blockCond ?_ | refine WK.blockReg ?_ | (refine WK.condT ?_ ?_; (focus (simp only [go_sem, seval, reduceCtorEq, hb0, List.length_map]; done))) | (refine WK.condF ?_ ?_; (focus (simp only [go_sem, seval, reduceCtorEq, hb0, List.length_map]; done))) | refine WK.seq ?_ | ((first | refine WK.reg ?_ | refine WK.skip ?_ | refine WK.ret ?_ | refine WK.exit ?_); simp only [go_sem, seval, reduceCtorEq, hb0, List.length_map]) | ((with_reducible refine And.intro ?_ ?_); omega) | omega)
  refine T0.seq (T0.defer 1 rfl ?_)
  simp only [toK, go_sem, seval, reduceCtorEq]
  refine ⟨_, _, _, _, rfl, rfl, ?_⟩
  simp only [go_sem, seval, reduceCtorEq]
  refine W.of ?_
  simp only [toK, go_sem, seval, reduceCtorEq]
  try simp only [go_sem, seval, reduceCtorEq, hb0, List.length_map]
  repeat (first | refine WK.blockSeq ?_ | refine WK.blockCond ?_ | refine WK.blockReg ?_ | (refine WK.condT ?_ ?_; (focus (simp only [go_sem, seval, reduceCtorEq, hb0, List.length_map]; done))) | (refine WK.condF ?_ ?_; (focus (simp only [go_sem, seval, reduceCtorEq, hb0, List.length_map]; done))) | refine WK.seq ?_ | (with_reducible refine And.intro ?_ ?_; focus omega))
  first | refine WK.reg ?_ | refine WK.skip ?_ | refine WK.ret ?_ | refine WK.exit ?_
  simp only [go_sem, seval, reduceCtorEq, hb0, List.length_map]
  refine callK_pureL (tokens_ok (gl := gl) text (by omega)) rfl ?_ ?_ ?_ <;> simp only [go_sem, seval, reduceCtorEq, hb0, List.length_map]
  have hbin := (parseE_all hsg har hst hri (need (.bin 1) (toksS text).length)).2 _ (Nat.le_refl _)
  try simp only [go_sem, seval, reduceCtorEq, hb0, List.length_map, pbox]
  repeat (first | refine WK.blockSeq ?_ | refine WK.blockCond ?_ | refine WK.blockReg ?_ | (refine WK.condT ?_ ?_; (focus (simp only [go_sem, seval, reduceCtorEq, hb0, List.length_map, pbox]; done))) | (refine WK.condF ?_ ?_; (focus (simp only [go_sem, seval, reduceCtorEq, hb0, List.length_map, pbox]; done))) | refine WK.seq ?_ | (with_reducible refine And.intro ?_ ?_; focus omega))
  refine WK.regV 0 ?_
  simp only [List.take_succ_cons, List.take_zero, List.getElem?_cons_succ, List.getElem?_cons_zero, panV, go_sem, seval, reduceCtorEq]
  have hE := hbin 2 ns (toksS text) 1 (((Sto.none.add (.box [.int .i64 0, .int .i64 0, .list true []])).add (.box [.int .i64 0])).add (pbox ns (toksS text))) hp (Nat.le_refl _) hns (Nat.lt_succ_self 2) rfl
  refine panR_x0 hE rfl ?_ ?_ ?_
  · simp only [go_sem, seval, reduceCtorEq]
  · simp only [go_sem, seval, reduceCtorEq]
  · refine ⟨.inr (.inr ⟨_, rfl⟩), _, parse1_pan _ _ _ rfl rfl rfl rfl (Nat.lt_succ_of_lt (Nat.lt_succ_self 1)), ?_⟩
    simp only [go_sem, seval, reduceCtorEq, hb0, List.length_map, pbox]
    exact ⟨AV.le_tup ⟨AV.le_agg ⟨.refl _, .refl _, AV.le_list' _, trivial⟩, .refl _, trivial⟩, cut_none _⟩
theorem parse_named (ns : List Bs) (text : Bs) (hns : ns.length < 1000000) (hnl : ∀ s ∈ ns, s.length < 1000000000) (hn : (namedS ns == 0) = false) :
    PCall (C gl) 37 [.list false (ns.map encT), .str (tx text)] (.tup [encF (.mk 0 0 []), .int .i64 (namedS ns)]) := by
  refine pcallX (callX_T b37 (by simp [Tryd.ntmps37]) ?_) (by simp only [AllCl, cl_str, cl_list, and_true]; exact of_eq_true (clE_T _)) (by simp only [cl_tup, AllCl, cl_encF, cl_int, and_true])
  simp only [Tryd.f37, codeOf]
  refine T0.seq (T0.ofW (W.of ?_))
  simp only [toK, go_sem, seval, reduceCtorEq]
  try simp only [go_sem, seval, reduceCtorEq, List.length_map]
  repeat (first | refine WK.blockSeq ?_ | refine WK.blockCond ?_ | refine WK.blockReg ?_ | (refine WK.condT ?_ ?_; (focus (simp only [go_sem, seval, reduceCtorEq, List.length_map]; done))) | (refine WK.condF ?_ ?_; (focus (simp only [go_sem, seval, reduceCtorEq, List.length_map]; done))) | refine WK.seq ?_ | ((first | refine WK.reg ?_ | refine WK.skip ?_ | refine WK.ret ?_ | refine WK.exit ?_); simp only [go_sem, seval, reduceCtorEq, List.length_map]) | ((with_reducible refine And.intro ?_ ?_); omega) | omega)
  refine T0.seq (T0.ofW (W.of ?_))
  simp only [toK, go_sem, seval, reduceCtorEq]
  try simp only [go_sem, seval, reduceCtorEq, List.length_map]
  repeat (first | refine WK.blockSeq ?_ | refine WK.blockCond ?_ | refine WK.blockReg ?_ | (refine WK.condT ?_ ?_; (focus (simp only [go_sem, seval, reduceCtorEq, List.length_map]; done))) | (refine WK.condF ?_ ?_; (focus (simp only [go_sem, seval, reduceCtorEq, List.length_map]; done))) | refine WK.seq ?_ | ((first | refine WK.reg ?_ | refine WK.skip ?_ | refine WK.ret ?_ | refine WK.exit ?_); simp only [go_sem, seval, reduceCtorEq, List.length_map]) | ((with_reducible refine And.intro ?_ ?_); omega) | omega)
  refine callK_pureL (named_ok (gl := gl) ns (by omega) hnl) rfl ?_ ?_ ?_ <;> simp only [go_sem, seval, reduceCtorEq, List.length_map]
  try simp only [go_sem, seval, reduceCtorEq, List.length_map, hn, bne]
  repeat (first | refine WK.blockSeq ?_ | refine WK.blockCond ?_ | refine WK.blockReg ?_ | (refine WK.condT ?_ ?_; (focus (simp only [go_sem, seval, reduceCtorEq, List.length_map, hn, bne]; done))) | (refine WK.condF ?_ ?_; (focus (simp only [go_sem, seval, reduceCtorEq, List.length_map, hn, bne]; done))) | refine WK.seq ?_ | ((first | refine WK.reg ?_ | refine WK.skip ?_ | refine WK.ret ?_ | refine WK.exit ?_); simp only [go_sem, seval, reduceCtorEq, List.length_map, hn, bne]) | ((with_reducible refine And.intro ?_ ?_); omega) | omega)
  exact ⟨AV.le_tup ⟨AV.le_agg ⟨.refl _, .refl _, AV.le_list' _, trivial⟩, .refl _, trivial⟩, cut_none _⟩
theorem parse_long (ns : List Bs) (text : Bs) (hns : ns.length < 1000000) (hnl : ∀ s ∈ ns, s.length < 1000000000) (hn : namedS ns = 0) (hl : text.length > 16384) :
    PCall (C gl) 37 [.list false (ns.map encT), .str (tx text)] (.tup [encF (.mk 0 0 []), .int .i64 3]) := by
  refine pcallX (callX_T b37 (by simp [Tryd.ntmps37]) ?_) (by simp only [AllCl, cl_str, cl_list, and_true]; exact of_eq_true (clE_T _)) (by simp only [cl_tup, AllCl, cl_encF, cl_int, and_true])
  simp only [Tryd.f37, codeOf]
  have hb0 : decide ((text.length : Int) > 16384) = true := by simp; omega
  refine T0.seq (T0.ofW (W.of ?_))
  simp only [toK, go_sem, seval, reduceCtorEq]
  try simp only [go_sem, seval, reduceCtorEq, hb0, List.length_map]
  repeat (first | refine WK.blockSeq ?_ | refine WK.blockCond ?_ | refine WK.blockReg ?_ | (refine WK.condT ?_ ?_; (focus (simp only [go_sem, seval, reduceCtorEq, hb0, List.length_map]; done))) | (refine WK.condF ?_ ?_; (focus (simp only [go_sem, seval, reduceCtorEq, hb0, List.length_map]; done))) | refine WK.seq ?_ | ((first | refine WK.reg ?_ | refine WK.skip ?_ | refine WK.ret ?_ | refine WK.exit ?_); simp only [go_sem, seval, reduceCtorEq, hb0, List.length_map]) | ((with_reducible refine And.intro ?_ ?_); omega) | omega)
  refine T0.seq (T0.ofW (W.of ?_))
  simp only [toK, go_sem, seval, reduceCtorEq]
  try simp only [go_sem, seval, reduceCtorEq, hb0, List.length_map]
  repeat (first | refine WK.blockSeq ?_ | refine WK.blockCond ?_ | refine WK.blockReg ?_ | (refine WK.condT ?_ ?_; (focus (simp only [go_sem, seval, reduceCtorEq, hb0, List.length_map]; done))) | (refine WK.condF ?_ ?_; (focus (simp only [go_sem, seval, reduceCtorEq, hb0, List.length_map]; done))) | refine WK.seq ?_ | ((first | refine WK.reg ?_ | refine WK.skip ?_ | refine WK.ret ?_ | refine WK.exit ?_); simp only [go_sem, seval, reduceCtorEq, hb0, List.length_map]) | ((with_reducible refine And.intro ?_ ?_); omega) | omega)
  refine callK_pureL (named_ok (gl := gl) ns (by omega) hnl) rfl ?_ ?_ ?_ <;> simp only [go_sem, seval, reduceCtorEq, hb0, List.length_map]
  try simp only [go_sem, seval, reduceCtorEq, hb0, List.length_map, hn, bne]
  repeat (first | refine WK.blockSeq ?_ | refine WK.blockCond ?_ | refine WK.blockReg ?_ | (refine WK.condT ?_ ?_; (focus (simp only [go_sem, seval, reduceCtorEq, hb0, List.length_map, hn, bne]; done))) | (refine WK.condF ?_ ?_; (focus (simp only [go_sem, seval, reduceCtorEq, hb0, List.length_map, hn, bne]; done))) | refine WK.seq ?_ | ((first | refine WK.reg ?_ | refine WK.skip ?_ | refine WK.ret ?_ | refine WK.exit ?_); simp only [go_sem, seval, reduceCtorEq, hb0, List.length_map, hn, bne]) | ((with_reducible refine And.intro ?_ ?_); omega) | omega)
  refine T0.seq (T0.ofW (W.of ?_))
  simp only [toK, go_sem, seval, reduceCtorEq]
  try simp only [go_sem, seval, reduceCtorEq, hb0, List.length_map]
  repeat (first | refine WK.blockSeq ?_ | refine WK.blockCond ?_ | refine WK.blockReg ?_ | (refine WK.condT ?_ ?_; (focus (simp only [go_sem, seval, reduceCtorEq, hb0, List.length_map]; done))) | (refine WK.condF ?_ ?_; (focus (simp only [go_sem, seval, reduceCtorEq, hb0, List.length_map]; done))) | refine WK.seq ?_ | ((first | refine WK.reg ?_ | refine WK.skip ?_ | refine WK.ret ?_ | refine WK.exit ?_); simp only [go_sem, seval, reduceCtorEq, hb0, List.length_map]) | ((with_reducible refine And.intro ?_ ?_); omega) | omega)
  exact ⟨AV.le_tup ⟨AV.le_agg ⟨.refl _, .refl _, AV.le_list' _, trivial⟩, .refl _, trivial⟩, cut_none _⟩
theorem parseS_ok (hsg : gl.at' 3 = signsA) (har : gl.at' 0 = arityA) (hst : gl.at' 1 = strengthA) (hri : gl.at' 2 = rightA)
    (ns : List Bs) (text : Bs) (hns : ns.length < 1000000) (hnl : ∀ s ∈ ns, s.length < 1000000000) :
    PCall (C gl) 37 [.list false (ns.map encT), .str (tx text)] (.tup [encF (parseS ns text).1, .int .i64 (parseS ns text).2]) := by
  unfold parseS
  cases hn : (namedS ns == 0) with
  | false =>
    rw [if_pos (by simpa using hn)]
    exact parse_named ns text hns hnl hn
  | true =>
    have hn := eq_of_beq hn
    rw [if_neg (by simp [hn])]
    by_cases hl : text.length > 16384
    · rw [if_pos hl]
      exact parse_long ns text hns hnl hn hl
    · rw [if_neg hl]
      cases e : parT ns (.bin 1) (toksS text) with
      | none => exact parse_bad hsg har hst hri ns text hns hnl hn (by omega) e
      | some p => exact parse_ok hsg har hst hri ns text _ p.1 p.2 hns hnl hn (by omega) e
end
end Go.Sx

set_option maxRecDepth 100000
set_option linter.unusedSimpArgs false
set_option linter.unusedVariables false
set_option linter.unnecessarySimpa false
namespace Go.Sx
open Go Go.Lg Go.Proofs
theorem b35 {gl : GL} : Body (C gl).P 35 Tryd.f35 (codeOf Tryd.f35) := ⟨Tryd.func35, by kernel_rfl, by kernel_rfl⟩
/-- The bytes of the names, as they are counted. -/
def fewN : List Bs → Int → Int
  | [], n => n
  | s :: l, n => fewN l (IntKind.i64.wrap (n + IntKind.i64.wrap (1 + (s.length : Int))))
theorem fewN_app : ∀ (a b : List Bs) (n : Int), fewN (a ++ b) n = fewN b (fewN a n)
  | [], b, n => rfl
  | s :: a, b, n => fewN_app a b _
theorem fewN_take {l : List Bs} {i : Nat} (n : Int) (h : i < l.length) : fewN (l.take (i + 1)) n = IntKind.i64.wrap (fewN (l.take i) n + IntKind.i64.wrap (1 + (l[i].length : Int))) := by
  rw [← List.take_append_getElem h, fewN_app]; rfl
def fewS (ns : List Bs) : Bool := decide (fewN ns 0 ≤ 1000)
/-- What the laws' inputs meet. -/
structure NsOK (ns : List Bs) : Prop where
  len : ns.length < 4611686018427387904
  all : ns.length ≤ 6 → ∀ s ∈ ns, s.length < 1000000000
theorem fewN_six (l : List Bs) : ∀ (n : Int), (∀ s ∈ l, s.length < 100000000000000000) → 0 ≤ n → n + l.length * 100000000000000001 ≤ 4611686018427387904 → n ≤ fewN l n ∧ ∀ s ∈ l, n + s.length ≤ fewN l n := by
  induction l with
  | nil => exact fun n _ _ _ => ⟨Int.le_refl _, fun s hs => by cases hs⟩
  | cons t l ih =>
    intro n hl h0 hn
    have ht := hl t List.mem_cons_self
    rw [List.length_cons] at hn
    have w1 : IntKind.i64.wrap (1 + (t.length : Int)) = 1 + (t.length : Int) := wrap_lt (by omega) (by omega)
    have w2 : IntKind.i64.wrap (n + (1 + (t.length : Int))) = n + (1 + (t.length : Int)) := wrap_lt (by omega) (by omega)
    have ih := ih (n + (1 + (t.length : Int))) (fun s hs => hl s (List.mem_cons_of_mem _ hs)) (by omega) (by omega)
    rw [fewN, w1, w2]
    refine ⟨by omega, fun s hs => ?_⟩
    rcases List.mem_cons.1 hs with rfl | hs
    · omega
    · have := ih.2 s hs; omega
theorem nsOK_of {ns : List Bs} (h1 : ns.length < 4611686018427387904) (h2 : ∀ s ∈ ns, s.length < 100000000000000000) (hf : fewS ns = true) : NsOK ns := by
  refine ⟨h1, fun h6 s hs => ?_⟩
  have := (fewN_six ns 0 h2 (by omega) (by omega)).2 s hs
  unfold fewS at hf
  have := of_decide_eq_true hf
  omega
section
variable {gl : GL}
theorem few_ok (ns : List Bs) (hl : ns.length < 4611686018427387904) : PCall (C gl) 35 [.list false (ns.map encT)] (.bool (fewS ns)) := by
  refine pcallX (callX_of b35 (by simp [Tryd.ntmps35]) ?_) (by simp only [AllCl, cl_list, and_true]; exact of_eq_true (clE_T _)) (.bool _)
  refine W.of ?_
  rw [Tryd.ntmps35]
  simp only [toK, codeOf, Tryd.f35, go_sem, seval, reduceCtorEq]
  have f0 : fewN [] 0 = 0 := (rfl)
  try simp only [go_sem, seval, reduceCtorEq, List.length_map, f0]
  repeat (first | refine WK.blockSeq ?_ | refine WK.blockCond ?_ | refine WK.blockReg ?_ | (refine WK.condT ?_ ?_; (focus (simp only [go_sem, seval, reduceCtorEq, List.length_map, f0]; done))) | (refine WK.condF ?_ ?_; (focus (simp only [go_sem, seval, reduceCtorEq, List.length_map, f0]; done))) | refine WK.seq ?_ | ((first | refine WK.reg ?_ | refine WK.skip ?_ | refine WK.ret ?_ | refine WK.exit ?_); simp only [go_sem, seval, reduceCtorEq, List.length_map, f0]) | ((with_reducible refine And.intro ?_ ?_); omega) | omega)
  refine WK.rangeX (ns.length) [0, 6] [3] (fun i => [.int .i64 (fewN (ns.take i) 0)]) (fun i => Sto.none) (by omega) (by decide) (by simp only [go_sem, seval, reduceCtorEq, List.length_map, f0]) (by simp only [go_sem, seval, reduceCtorEq, List.length_map, f0]) (by simp only [go_sem, seval, reduceCtorEq, List.length_map, f0, List.take_zero]) (by first | rfl | (simp only [go_sem, seval, reduceCtorEq, List.length_map, f0]; done) | (refine Sto.ext' (by simp only [go_sem, seval, reduceCtorEq, List.length_map, f0]) (fun i => ?_); simp only [go_sem, seval, reduceCtorEq, List.length_map, f0]; repeat' split; all_goals (first | rfl | omega | simp_all))) ?_ ?_
  · intro i hi
    have e := map_getT encT ns i hi
    try simp only [go_sem, seval, reduceCtorEq, List.length_map, f0, e, encT_eq]
    repeat (first | refine WK.blockSeq ?_ | refine WK.blockCond ?_ | refine WK.blockReg ?_ | (refine WK.condT ?_ ?_; (focus (simp only [go_sem, seval, reduceCtorEq, List.length_map, f0, e, encT_eq]; done))) | (refine WK.condF ?_ ?_; (focus (simp only [go_sem, seval, reduceCtorEq, List.length_map, f0, e, encT_eq]; done))) | refine WK.seq ?_ | ((first | refine WK.reg ?_ | refine WK.skip ?_ | refine WK.ret ?_ | refine WK.exit ?_); simp only [go_sem, seval, reduceCtorEq, List.length_map, f0, e, encT_eq]) | ((with_reducible refine And.intro ?_ ?_); omega) | omega)
    rw [fewN_take 0 hi]
  · rw [List.take_length]
    try simp only [go_sem, seval, reduceCtorEq, List.length_map, f0]
    repeat (first | refine WK.blockSeq ?_ | refine WK.blockCond ?_ | refine WK.blockReg ?_ | (refine WK.condT ?_ ?_; (focus (simp only [go_sem, seval, reduceCtorEq, List.length_map, f0]; done))) | (refine WK.condF ?_ ?_; (focus (simp only [go_sem, seval, reduceCtorEq, List.length_map, f0]; done))) | refine WK.seq ?_ | ((first | refine WK.reg ?_ | refine WK.skip ?_ | refine WK.ret ?_ | refine WK.exit ?_); simp only [go_sem, seval, reduceCtorEq, List.length_map, f0]) | ((with_reducible refine And.intro ?_ ?_); omega) | omega)
    rfl
theorem named6_ok (l : List Bs) (hl : l.length < 4611686018427387904) (h6 : 6 < l.length) : PCall (C gl) 94 [.list false (l.map encT)] (.int .i64 (namedS l)) := by
  refine pcallX (callX_of b94 (by simp [Tryd.ntmps94]) ?_) (by simp only [AllCl, cl_str, cl_list, and_true]; exact of_eq_true (clE_T _)) (.int _ _)
  refine W.of ?_
  rw [Tryd.ntmps94]
  simp only [toK, codeOf, Tryd.f94, go_sem, seval, reduceCtorEq]
  try simp only [go_sem, seval, reduceCtorEq, List.length_map]
  repeat (first | refine WK.blockSeq ?_ | refine WK.blockCond ?_ | refine WK.blockReg ?_ | (refine WK.condT ?_ ?_; (focus (simp only [go_sem, seval, reduceCtorEq, List.length_map]; done))) | (refine WK.condF ?_ ?_; (focus (simp only [go_sem, seval, reduceCtorEq, List.length_map]; done))) | refine WK.seq ?_ | ((first | refine WK.reg ?_ | refine WK.skip ?_ | refine WK.ret ?_ | refine WK.exit ?_); simp only [go_sem, seval, reduceCtorEq, List.length_map]) | ((with_reducible refine And.intro ?_ ?_); omega) | omega)
  refine WK.cond _ (by simp only [go_sem, seval, reduceCtorEq, List.length_map]; rfl) (fun hb => ?_) (fun hb => ?_)
  · try simp only [go_sem, seval, reduceCtorEq, List.length_map]
    repeat (first | refine WK.blockSeq ?_ | refine WK.blockCond ?_ | refine WK.blockReg ?_ | (refine WK.condT ?_ ?_; (focus (simp only [go_sem, seval, reduceCtorEq, List.length_map]; done))) | (refine WK.condF ?_ ?_; (focus (simp only [go_sem, seval, reduceCtorEq, List.length_map]; done))) | refine WK.seq ?_ | ((first | refine WK.reg ?_ | refine WK.skip ?_ | refine WK.ret ?_ | refine WK.exit ?_); simp only [go_sem, seval, reduceCtorEq, List.length_map]) | ((with_reducible refine And.intro ?_ ?_); omega) | omega)
    rw [namedS, if_pos (of_decide_eq_true hb)]
  · exfalso
    have := of_decide_eq_false hb
    omega
theorem namedN_ok (l : List Bs) (h : NsOK l) : PCall (C gl) 94 [.list false (l.map encT)] (.int .i64 (namedS l)) := by
  by_cases h6 : l.length ≤ 6
  · exact named_ok l (by omega) (h.all h6)
  · exact named6_ok l h.len (by omega)
theorem named_six {l : List Bs} (h6 : 6 < l.length) : namedS l = 6 := by
  rw [namedS, if_pos (by omega)]
theorem print6_ok (ns : List Bs) (f : Fm) (hf : Shrt f) (h : NsOK ns) (h6 : 6 < ns.length) :
    PCall (C gl) 39 [.list false (ns.map encT), encF f] (.tup [.str (tx []), .int .i64 6]) := by
  refine pcallX (callX_of b39 (by simp [Tryd.ntmps39]) ?_) (by simp only [AllCl, cl_encF, cl_list, and_true]; exact of_eq_true (clE_T _)) (by simp only [cl_tup, AllCl, cl_str, cl_int, and_true])
  refine W.of ?_
  rw [Tryd.ntmps39]
  simp only [toK, codeOf, Tryd.f39, go_sem, seval, reduceCtorEq]
  have h0 := named_six h6
  try simp only [go_sem, seval, reduceCtorEq, encF_eq, List.length_map, h0]
  repeat (first | refine WK.blockSeq ?_ | refine WK.blockCond ?_ | refine WK.blockReg ?_ | (refine WK.condT ?_ ?_; (focus (simp only [go_sem, seval, reduceCtorEq, encF_eq, List.length_map, h0]; done))) | (refine WK.condF ?_ ?_; (focus (simp only [go_sem, seval, reduceCtorEq, encF_eq, List.length_map, h0]; done))) | refine WK.seq ?_ | ((first | refine WK.reg ?_ | refine WK.skip ?_ | refine WK.ret ?_ | refine WK.exit ?_); simp only [go_sem, seval, reduceCtorEq, encF_eq, List.length_map, h0]) | ((with_reducible refine And.intro ?_ ?_); omega) | omega)
  refine callK_pureL (namedN_ok (gl := gl) ns h) rfl ?_ ?_ ?_ <;> simp only [go_sem, seval, reduceCtorEq, encF_eq, List.length_map, h0]
  try simp only [go_sem, seval, reduceCtorEq, encF_eq, List.length_map, h0, bne]
  repeat (first | refine WK.blockSeq ?_ | refine WK.blockCond ?_ | refine WK.blockReg ?_ | (refine WK.condT ?_ ?_; (focus (simp only [go_sem, seval, reduceCtorEq, encF_eq, List.length_map, h0, bne]; done))) | (refine WK.condF ?_ ?_; (focus (simp only [go_sem, seval, reduceCtorEq, encF_eq, List.length_map, h0, bne]; done))) | refine WK.seq ?_ | ((first | refine WK.reg ?_ | refine WK.skip ?_ | refine WK.ret ?_ | refine WK.exit ?_); simp only [go_sem, seval, reduceCtorEq, encF_eq, List.length_map, h0, bne]) | ((with_reducible refine And.intro ?_ ?_); omega) | omega)
  exact cut_none _
theorem parse6_ok (ns : List Bs) (text : Bs) (h : NsOK ns) (h6 : 6 < ns.length) :
    PCall (C gl) 37 [.list false (ns.map encT), .str (tx text)] (.tup [encF (.mk 0 0 []), .int .i64 6]) := by
  refine pcallX (callX_T b37 (by simp [Tryd.ntmps37]) ?_) (by simp only [AllCl, cl_str, cl_list, and_true]; exact of_eq_true (clE_T _)) (by simp only [cl_tup, AllCl, cl_encF, cl_int, and_true])
  simp only [Tryd.f37, codeOf]
  have h0 := named_six h6
  refine T0.seq (T0.ofW (W.of ?_))
  simp only [toK, go_sem, seval, reduceCtorEq]
  try simp only [go_sem, seval, reduceCtorEq, List.length_map, h0]
  repeat (first | refine WK.blockSeq ?_ | refine WK.blockCond ?_ | refine WK.blockReg ?_ | (refine WK.condT ?_ ?_; (focus (simp only [go_sem, seval, reduceCtorEq, List.length_map, h0]; done))) | (refine WK.condF ?_ ?_; (focus (simp only [go_sem, seval, reduceCtorEq, List.length_map, h0]; done))) | refine WK.seq ?_ | ((first | refine WK.reg ?_ | refine WK.skip ?_ | refine WK.ret ?_ | refine WK.exit ?_); simp only [go_sem, seval, reduceCtorEq, List.length_map, h0]) | ((with_reducible refine And.intro ?_ ?_); omega) | omega)
  refine T0.seq (T0.ofW (W.of ?_))
  simp only [toK, go_sem, seval, reduceCtorEq]
  try simp only [go_sem, seval, reduceCtorEq, List.length_map, h0]
  repeat (first | refine WK.blockSeq ?_ | refine WK.blockCond ?_ | refine WK.blockReg ?_ | (refine WK.condT ?_ ?_; (focus (simp only [go_sem, seval, reduceCtorEq, List.length_map, h0]; done))) | (refine WK.condF ?_ ?_; (focus (simp only [go_sem, seval, reduceCtorEq, List.length_map, h0]; done))) | refine WK.seq ?_ | ((first | refine WK.reg ?_ | refine WK.skip ?_ | refine WK.ret ?_ | refine WK.exit ?_); simp only [go_sem, seval, reduceCtorEq, List.length_map, h0]) | ((with_reducible refine And.intro ?_ ?_); omega) | omega)
  refine callK_pureL (namedN_ok (gl := gl) ns h) rfl ?_ ?_ ?_ <;> simp only [go_sem, seval, reduceCtorEq, List.length_map, h0]
  try simp only [go_sem, seval, reduceCtorEq, List.length_map, h0, bne]
  repeat (first | refine WK.blockSeq ?_ | refine WK.blockCond ?_ | refine WK.blockReg ?_ | (refine WK.condT ?_ ?_; (focus (simp only [go_sem, seval, reduceCtorEq, List.length_map, h0, bne]; done))) | (refine WK.condF ?_ ?_; (focus (simp only [go_sem, seval, reduceCtorEq, List.length_map, h0, bne]; done))) | refine WK.seq ?_ | ((first | refine WK.reg ?_ | refine WK.skip ?_ | refine WK.ret ?_ | refine WK.exit ?_); simp only [go_sem, seval, reduceCtorEq, List.length_map, h0, bne]) | ((with_reducible refine And.intro ?_ ?_); omega) | omega)
  exact ⟨AV.le_tup ⟨AV.le_agg ⟨.refl _, .refl _, AV.le_list' _, trivial⟩, .refl _, trivial⟩, cut_none _⟩
theorem parseN_ok (hsg : gl.at' 3 = signsA) (har : gl.at' 0 = arityA) (hst : gl.at' 1 = strengthA) (hri : gl.at' 2 = rightA)
    (ns : List Bs) (text : Bs) (h : NsOK ns) : PCall (C gl) 37 [.list false (ns.map encT), .str (tx text)] (.tup [encF (parseS ns text).1, .int .i64 (parseS ns text).2]) := by
  by_cases h6 : ns.length ≤ 6
  · exact parseS_ok hsg har hst hri ns text (by omega) (h.all h6)
  · have e : parseS ns text = (.mk 0 0 [], 6) := by
      unfold parseS
      rw [named_six (by omega), if_pos (by decide)]
    rw [e]
    exact parse6_ok ns text h (by omega)
theorem printN_ok (hsg : gl.at' 3 = signsA) (har : gl.at' 0 = arityA) (hst : gl.at' 1 = strengthA) (hri : gl.at' 2 = rightA)
    (ns : List Bs) (f : Fm) (hf : Shrt f) (h : NsOK ns) : PCall (C gl) 39 [.list false (ns.map encT), encF f] (.tup [.str (tx (printS ns f).1), .int .i64 (printS ns f).2]) := by
  by_cases h6 : ns.length ≤ 6
  · refine print_ok hsg har hst hri ns f hf (by omega) (h.all h6) fun hn hv => ?_
    have hok := (validF_iff f ns.length).1 hv
    have := wr_len ns hn f hok.2.2.2
    have hh := hok.2.2.1
    have : (nodesF f).length ≤ 60 := hh
    omega
  · have e : printS ns f = ([], 6) := by
      unfold printS
      rw [named_six (by omega), if_pos (by decide)]
    rw [e]
    exact print6_ok ns f hf h (by omega)
end
end Go.Sx
