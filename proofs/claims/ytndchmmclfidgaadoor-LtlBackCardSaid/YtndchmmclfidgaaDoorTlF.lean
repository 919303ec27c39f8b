import Derived.Test.YtndchmmclfidgaaDoorTlE
set_option maxRecDepth 100000
set_option linter.unusedSimpArgs false
set_option linter.unusedVariables false
set_option linter.unnecessarySimpa false
namespace Go.Sx
open Go Go.Lg Go.Proofs
theorem b35 {gl : GL} : Body (C gl).P 35 Tryd.f35 (codeOf Tryd.f35) := ⟨Tryd.func35, by kernel_rfl, by kernel_rfl⟩
/-- The bytes of the names, as they are counted. -/
def fewN : List Bs → Int → Int
  | [], n => n
  | s :: l, n => fewN l (IntKind.i64.wrap (n + IntKind.i64.wrap (1 + (s.length : Int))))
theorem fewN_app : ∀ (a b : List Bs) (n : Int), fewN (a ++ b) n = fewN b (fewN a n)
  | [], b, n => rfl
  | s :: a, b, n => fewN_app a b _
theorem fewN_take {l : List Bs} {i : Nat} (n : Int) (h : i < l.length) : fewN (l.take (i + 1)) n = IntKind.i64.wrap (fewN (l.take i) n + IntKind.i64.wrap (1 + (l[i].length : Int))) := by
  rw [← List.take_append_getElem h, fewN_app]; rfl
def fewS (ns : List Bs) : Bool := decide (fewN ns 0 ≤ 1000)
/-- What the laws' inputs meet. -/
structure NsOK (ns : List Bs) : Prop where
  len : ns.length < 4611686018427387904
  all : ns.length ≤ 6 → ∀ s ∈ ns, s.length < 1000000000
theorem fewN_six (l : List Bs) : ∀ (n : Int), (∀ s ∈ l, s.length < 100000000000000000) → 0 ≤ n → n + l.length * 100000000000000001 ≤ 4611686018427387904 → n ≤ fewN l n ∧ ∀ s ∈ l, n + s.length ≤ fewN l n := by
  induction l with
  | nil => exact fun n _ _ _ => ⟨Int.le_refl _, fun s hs => by cases hs⟩
  | cons t l ih =>
    intro n hl h0 hn
    have ht := hl t List.mem_cons_self
    rw [List.length_cons] at hn
    have w1 : IntKind.i64.wrap (1 + (t.length : Int)) = 1 + (t.length : Int) := wrap_lt (by omega) (by omega)
    have w2 : IntKind.i64.wrap (n + (1 + (t.length : Int))) = n + (1 + (t.length : Int)) := wrap_lt (by omega) (by omega)
    have ih := ih (n + (1 + (t.length : Int))) (fun s hs => hl s (List.mem_cons_of_mem _ hs)) (by omega) (by omega)
    rw [fewN, w1, w2]
    refine ⟨by omega, fun s hs => ?_⟩
    rcases List.mem_cons.1 hs with rfl | hs
    · omega
    · have := ih.2 s hs; omega
theorem nsOK_of {ns : List Bs} (h1 : ns.length < 4611686018427387904) (h2 : ∀ s ∈ ns, s.length < 100000000000000000) (hf : fewS ns = true) : NsOK ns := by
  refine ⟨h1, fun h6 s hs => ?_⟩
  have := (fewN_six ns 0 h2 (by omega) (by omega)).2 s hs
  unfold fewS at hf
  have := of_decide_eq_true hf
  omega
section
variable {gl : GL}
theorem few_ok (ns : List Bs) (hl : ns.length < 4611686018427387904) : PCall (C gl) 35 [.list false (ns.map encT)] (.bool (fewS ns)) := by
  refine pcallX (callX_of b35 (by simp [Tryd.ntmps35]) ?_) (by simp only [AllCl, cl_list, and_true]; exact of_eq_true (clE_T _)) (.bool _)
  refine W.of ?_
  rw [Tryd.ntmps35]
  simp only [toK, codeOf, Tryd.f35, go_sem, seval, reduceCtorEq]
  have f0 : fewN [] 0 = 0 := (rfl)
  try simp only [go_sem, seval, reduceCtorEq, List.length_map, f0]
  repeat (first | refine WK.blockSeq ?_ | refine WK.blockCond ?_ | refine WK.blockReg ?_ | (refine WK.condT ?_ ?_; (focus (simp only [go_sem, seval, reduceCtorEq, List.length_map, f0]; done))) | (refine WK.condF ?_ ?_; (focus (simp only [go_sem, seval, reduceCtorEq, List.length_map, f0]; done))) | refine WK.seq ?_ | ((first | refine WK.reg ?_ | refine WK.skip ?_ | refine WK.ret ?_ | refine WK.exit ?_); simp only [go_sem, seval, reduceCtorEq, List.length_map, f0]) | ((with_reducible refine And.intro ?_ ?_); omega) | omega)
  refine WK.rangeX (ns.length) [0, 6] [3] (fun i => [.int .i64 (fewN (ns.take i) 0)]) (fun i => Sto.none) (by omega) (by decide) (by simp only [go_sem, seval, reduceCtorEq, List.length_map, f0]) (by simp only [go_sem, seval, reduceCtorEq, List.length_map, f0]) (by simp only [go_sem, seval, reduceCtorEq, List.length_map, f0, List.take_zero]) (by first | rfl | (simp only [go_sem, seval, reduceCtorEq, List.length_map, f0]; done) | (refine Sto.ext' (by simp only [go_sem, seval, reduceCtorEq, List.length_map, f0]) (fun i => ?_); simp only [go_sem, seval, reduceCtorEq, List.length_map, f0]; repeat' split; all_goals (first | rfl | omega | simp_all))) ?_ ?_
  · intro i hi
    have e := map_getT encT ns i hi
    try simp only [go_sem, seval, reduceCtorEq, List.length_map, f0, e, encT_eq]
    repeat (first | refine WK.blockSeq ?_ | refine WK.blockCond ?_ | refine WK.blockReg ?_ | (refine WK.condT ?_ ?_; (focus (simp only [go_sem, seval, reduceCtorEq, List.length_map, f0, e, encT_eq]; done))) | (refine WK.condF ?_ ?_; (focus (simp only [go_sem, seval, reduceCtorEq, List.length_map, f0, e, encT_eq]; done))) | refine WK.seq ?_ | ((first | refine WK.reg ?_ | refine WK.skip ?_ | refine WK.ret ?_ | refine WK.exit ?_); simp only [go_sem, seval, reduceCtorEq, List.length_map, f0, e, encT_eq]) | ((with_reducible refine And.intro ?_ ?_); omega) | omega)
    rw [fewN_take 0 hi]
  · rw [List.take_length]
    try simp only [go_sem, seval, reduceCtorEq, List.length_map, f0]
    repeat (first | refine WK.blockSeq ?_ | refine WK.blockCond ?_ | refine WK.blockReg ?_ | (refine WK.condT ?_ ?_; (focus (simp only [go_sem, seval, reduceCtorEq, List.length_map, f0]; done))) | (refine WK.condF ?_ ?_; (focus (simp only [go_sem, seval, reduceCtorEq, List.length_map, f0]; done))) | refine WK.seq ?_ | ((first | refine WK.reg ?_ | refine WK.skip ?_ | refine WK.ret ?_ | refine WK.exit ?_); simp only [go_sem, seval, reduceCtorEq, List.length_map, f0]) | ((with_reducible refine And.intro ?_ ?_); omega) | omega)
    rfl
theorem named6_ok (l : List Bs) (hl : l.length < 4611686018427387904) (h6 : 6 < l.length) : PCall (C gl) 94 [.list false (l.map encT)] (.int .i64 (namedS l)) := by
  refine pcallX (callX_of b94 (by simp [Tryd.ntmps94]) ?_) (by simp only [AllCl, cl_str, cl_list, and_true]; exact of_eq_true (clE_T _)) (.int _ _)
  refine W.of ?_
  rw [Tryd.ntmps94]
  simp only [toK, codeOf, Tryd.f94, go_sem, seval, reduceCtorEq]
  try simp only [go_sem, seval, reduceCtorEq, List.length_map]
  repeat (first | refine WK.blockSeq ?_ | refine WK.blockCond ?_ | refine WK.blockReg ?_ | (refine WK.condT ?_ ?_; (focus (simp only [go_sem, seval, reduceCtorEq, List.length_map]; done))) | (refine WK.condF ?_ ?_; (focus (simp only [go_sem, seval, reduceCtorEq, List.length_map]; done))) | refine WK.seq ?_ | ((first | refine WK.reg ?_ | refine WK.skip ?_ | refine WK.ret ?_ | refine WK.exit ?_); simp only [go_sem, seval, reduceCtorEq, List.length_map]) | ((with_reducible refine And.intro ?_ ?_); omega) | omega)
  refine WK.cond _ (by simp only [go_sem, seval, reduceCtorEq, List.length_map]; rfl) (fun hb => ?_) (fun hb => ?_)
  · try simp only [go_sem, seval, reduceCtorEq, List.length_map]
    repeat (first | refine WK.blockSeq ?_ | refine WK.blockCond ?_ | refine WK.blockReg ?_ | (refine WK.condT ?_ ?_; (focus (simp only [go_sem, seval, reduceCtorEq, List.length_map]; done))) | (refine WK.condF ?_ ?_; (focus (simp only [go_sem, seval, reduceCtorEq, List.length_map]; done))) | refine WK.seq ?_ | ((first | refine WK.reg ?_ | refine WK.skip ?_ | refine WK.ret ?_ | refine WK.exit ?_); simp only [go_sem, seval, reduceCtorEq, List.length_map]) | ((with_reducible refine And.intro ?_ ?_); omega) | omega)
    rw [namedS, if_pos (of_decide_eq_true hb)]
  · exfalso
    have := of_decide_eq_false hb
    omega
theorem namedN_ok (l : List Bs) (h : NsOK l) : PCall (C gl) 94 [.list false (l.map encT)] (.int .i64 (namedS l)) := by
  by_cases h6 : l.length ≤ 6
  · exact named_ok l (by omega) (h.all h6)
  · exact named6_ok l h.len (by omega)
theorem named_six {l : List Bs} (h6 : 6 < l.length) : namedS l = 6 := by
  rw [namedS, if_pos (by omega)]
theorem print6_ok (ns : List Bs) (f : Fm) (hf : Shrt f) (h : NsOK ns) (h6 : 6 < ns.length) :
    PCall (C gl) 39 [.list false (ns.map encT), encF f] (.tup [.str (tx []), .int .i64 6]) := by
  refine pcallX (callX_of b39 (by simp [Tryd.ntmps39]) ?_) (by simp only [AllCl, cl_encF, cl_list, and_true]; exact of_eq_true (clE_T _)) (by simp only [cl_tup, AllCl, cl_str, cl_int, and_true])
  refine W.of ?_
  rw [Tryd.ntmps39]
  simp only [toK, codeOf, Tryd.f39, go_sem, seval, reduceCtorEq]
  have h0 := named_six h6
  try simp only [go_sem, seval, reduceCtorEq, encF_eq, List.length_map, h0]
  repeat (first | refine WK.blockSeq ?_ | refine WK.blockCond ?_ | refine WK.blockReg ?_ | (refine WK.condT ?_ ?_; (focus (simp only [go_sem, seval, reduceCtorEq, encF_eq, List.length_map, h0]; done))) | (refine WK.condF ?_ ?_; (focus (simp only [go_sem, seval, reduceCtorEq, encF_eq, List.length_map, h0]; done))) | refine WK.seq ?_ | ((first | refine WK.reg ?_ | refine WK.skip ?_ | refine WK.ret ?_ | refine WK.exit ?_); simp only [go_sem, seval, reduceCtorEq, encF_eq, List.length_map, h0]) | ((with_reducible refine And.intro ?_ ?_); omega) | omega)
  refine callK_pureL (namedN_ok (gl := gl) ns h) rfl ?_ ?_ ?_ <;> simp only [go_sem, seval, reduceCtorEq, encF_eq, List.length_map, h0]
  try simp only [go_sem, seval, reduceCtorEq, encF_eq, List.length_map, h0, bne]
  repeat (first | refine WK.blockSeq ?_ | refine WK.blockCond ?_ | refine WK.blockReg ?_ | (refine WK.condT ?_ ?_; (focus (simp only [go_sem, seval, reduceCtorEq, encF_eq, List.length_map, h0, bne]; done))) | (refine WK.condF ?_ ?_; (focus (simp only [go_sem, seval, reduceCtorEq, encF_eq, List.length_map, h0, bne]; done))) | refine WK.seq ?_ | ((first | refine WK.reg ?_ | refine WK.skip ?_ | refine WK.ret ?_ | refine WK.exit ?_); simp only [go_sem, seval, reduceCtorEq, encF_eq, List.length_map, h0, bne]) | ((with_reducible refine And.intro ?_ ?_); omega) | omega)
  exact cut_none _
theorem parse6_ok (ns : List Bs) (text : Bs) (h : NsOK ns) (h6 : 6 < ns.length) :
    PCall (C gl) 37 [.list false (ns.map encT), .str (tx text)] (.tup [encF (.mk 0 0 []), .int .i64 6]) := by
  refine pcallX (callX_T b37 (by simp [Tryd.ntmps37]) ?_) (by simp only [AllCl, cl_str, cl_list, and_true]; exact of_eq_true (clE_T _)) (by simp only [cl_tup, AllCl, cl_encF, cl_int, and_true])
  simp only [Tryd.f37, codeOf]
  have h0 := named_six h6
  refine T0.seq (T0.ofW (W.of ?_))
  simp only [toK, go_sem, seval, reduceCtorEq]
  try simp only [go_sem, seval, reduceCtorEq, List.length_map, h0]
  repeat (first | refine WK.blockSeq ?_ | refine WK.blockCond ?_ | refine WK.blockReg ?_ | (refine WK.condT ?_ ?_; (focus (simp only [go_sem, seval, reduceCtorEq, List.length_map, h0]; done))) | (refine WK.condF ?_ ?_; (focus (simp only [go_sem, seval, reduceCtorEq, List.length_map, h0]; done))) | refine WK.seq ?_ | ((first | refine WK.reg ?_ | refine WK.skip ?_ | refine WK.ret ?_ | refine WK.exit ?_); simp only [go_sem, seval, reduceCtorEq, List.length_map, h0]) | ((with_reducible refine And.intro ?_ ?_); omega) | omega)
  refine T0.seq (T0.ofW (W.of ?_))
  simp only [toK, go_sem, seval, reduceCtorEq]
  try simp only [go_sem, seval, reduceCtorEq, List.length_map, h0]
  repeat (first | refine WK.blockSeq ?_ | refine WK.blockCond ?_ | refine WK.blockReg ?_ | (refine WK.condT ?_ ?_; (focus (simp only [go_sem, seval, reduceCtorEq, List.length_map, h0]; done))) | (refine WK.condF ?_ ?_; (focus (simp only [go_sem, seval, reduceCtorEq, List.length_map, h0]; done))) | refine WK.seq ?_ | ((first | refine WK.reg ?_ | refine WK.skip ?_ | refine WK.ret ?_ | refine WK.exit ?_); simp only [go_sem, seval, reduceCtorEq, List.length_map, h0]) | ((with_reducible refine And.intro ?_ ?_); omega) | omega)
  refine callK_pureL (namedN_ok (gl := gl) ns h) rfl ?_ ?_ ?_ <;> simp only [go_sem, seval, reduceCtorEq, List.length_map, h0]
  try simp only [go_sem, seval, reduceCtorEq, List.length_map, h0, bne]
  repeat (first | refine WK.blockSeq ?_ | refine WK.blockCond ?_ | refine WK.blockReg ?_ | (refine WK.condT ?_ ?_; (focus (simp only [go_sem, seval, reduceCtorEq, List.length_map, h0, bne]; done))) | (refine WK.condF ?_ ?_; (focus (simp only [go_sem, seval, reduceCtorEq, List.length_map, h0, bne]; done))) | refine WK.seq ?_ | ((first | refine WK.reg ?_ | refine WK.skip ?_ | refine WK.ret ?_ | refine WK.exit ?_); simp only [go_sem, seval, reduceCtorEq, List.length_map, h0, bne]) | ((with_reducible refine And.intro ?_ ?_); omega) | omega)
  exact ⟨AV.le_tup ⟨AV.le_agg ⟨.refl _, .refl _, AV.le_list' _, trivial⟩, .refl _, trivial⟩, cut_none _⟩
theorem parseN_ok (hsg : gl.at' 3 = signsA) (har : gl.at' 0 = arityA) (hst : gl.at' 1 = strengthA) (hri : gl.at' 2 = rightA)
    (ns : List Bs) (text : Bs) (h : NsOK ns) : PCall (C gl) 37 [.list false (ns.map encT), .str (tx text)] (.tup [encF (parseS ns text).1, .int .i64 (parseS ns text).2]) := by
  by_cases h6 : ns.length ≤ 6
  · exact parseS_ok hsg har hst hri ns text (by omega) (h.all h6)
  · have e : parseS ns text = (.mk 0 0 [], 6) := by
      unfold parseS
      rw [named_six (by omega), if_pos (by decide)]
    rw [e]
    exact parse6_ok ns text h (by omega)
theorem printN_ok (hsg : gl.at' 3 = signsA) (har : gl.at' 0 = arityA) (hst : gl.at' 1 = strengthA) (hri : gl.at' 2 = rightA)
    (ns : List Bs) (f : Fm) (hf : Shrt f) (h : NsOK ns) : PCall (C gl) 39 [.list false (ns.map encT), encF f] (.tup [.str (tx (printS ns f).1), .int .i64 (printS ns f).2]) := by
  by_cases h6 : ns.length ≤ 6
  · refine print_ok hsg har hst hri ns f hf (by omega) (h.all h6) fun hn hv => ?_
    have hok := (validF_iff f ns.length).1 hv
    have := wr_len ns hn f hok.2.2.2
    have hh := hok.2.2.1
    have : (nodesF f).length ≤ 60 := hh
    omega
  · have e : printS ns f = ([], 6) := by
      unfold printS
      rw [named_six (by omega), if_pos (by decide)]
    rw [e]
    exact print6_ok ns f hf h (by omega)
end
end Go.Sx
