import Derived.Test.YtndchmmclfidgaaDoorTkD
set_option maxRecDepth 100000
set_option linter.unusedSimpArgs false
set_option linter.unusedVariables false
set_option linter.unnecessarySimpa false
namespace Go.Sx
open Go Go.Lg Go.Proofs
theorem b95 {gl : GL} : Body (C gl).P 95 Tryd.f95 (codeOf Tryd.f95) := ⟨Tryd.func95, by kernel_rfl, by kernel_rfl⟩
theorem b37 {gl : GL} : Body (C gl).P 37 Tryd.f37 (codeOf Tryd.f37) := ⟨Tryd.func37, by kernel_rfl, by kernel_rfl⟩
theorem b98 {gl : GL} : Body (C gl).P 98 Tryd.f98 (codeOf Tryd.f98) := ⟨Tryd.func98, by kernel_rfl, by kernel_rfl⟩

theorem parF_shrt (ns : List Bs) : ∀ (n : Nat) (md : Md) (l l' : List Bs) (f : Fm), parF ns n md l = some (f, l') → (∀ least g, md = .loop least g → Shrt g) → Shrt f
  | 0, _, _, _, _, h, _ => by simp only [parF] at h; cases h
  | n + 1, .pre, l, l', f, h, _ => by
    cases l with
    | nil => simp only [parF] at h; cases h
    | cons t r =>
    simp only [parF] at h
    split at h
    · cases h
    split at h
    · split at h
      · rename_i g u k e
        split at h
        · cases h
          exact parF_shrt ns n _ _ _ _ e (fun _ _ h => by cases h)
        · cases h
      · cases h
    split at h
    · cases h; simp [Shrt, ShrtL]
    split at h
    · cases h; simp [Shrt, ShrtL]
    split at h
    · split at h
      · rename_i g k e
        cases h
        have := parF_shrt ns n _ _ _ _ e (fun _ _ h => by cases h)
        simp [Shrt, ShrtL, this]
      · cases h
    split at h
    · cases h
    · cases h; simp [Shrt, ShrtL]
  | n + 1, .bin least, l, l', f, h, _ => by
    simp only [parF] at h
    split at h
    · rename_i g k e
      have := parF_shrt ns n _ _ _ _ e (fun _ _ h => by cases h)
      exact parF_shrt ns n _ _ _ _ h (fun _ _ h => by cases h; exact this)
    · cases h
  | n + 1, .loop least f0, l, l', f, h, hf => by
    have h0 := hf _ _ rfl
    simp only [parF] at h
    split at h
    · cases h; exact h0
    split at h
    · rename_i g k e
      have := parF_shrt ns n _ _ _ _ e (fun _ _ h => by cases h)
      exact parF_shrt ns n _ _ _ _ h (fun _ _ h => by cases h; simp [Shrt, ShrtL, this, h0])
    · cases h
/-- The answer, if the parser does not stumble. -/
def parA (f : Fm) (l : List Bs) : Fm × Int := if l.length > 0 then (.mk 0 0 [], 4) else if validF f 6 then (f, 0) else (.mk 0 0 [], 3)
section
variable {gl : GL}
theorem if20 : isIfT (C gl) 20 = true := by kernel_rfl
attribute [go_sem] if20
theorem valid6_ok (har : gl.at' 0 = arityA) (f : Fm) (hs : Shrt f) : PCall (C gl) 98 [encF f] (.bool (validF f 6)) := by
  refine pcallX (callX_of b98 (by simp [Tryd.ntmps98]) ?_) (by simp only [AllCl, cl_encF, and_true]) (.bool _)
  refine W.of ?_
  rw [Tryd.ntmps98]
  simp only [toK, codeOf, Tryd.f98, go_sem, seval, reduceCtorEq]
  try simp only [go_sem, seval, reduceCtorEq, encF_eq]
  repeat (first | refine WK.blockSeq ?_ | refine WK.blockCond ?_ | refine WK.blockReg ?_ | (refine WK.condT ?_ ?_; (focus (simp only [go_sem, seval, reduceCtorEq, encF_eq]; done))) | (refine WK.condF ?_ ?_; (focus (simp only [go_sem, seval, reduceCtorEq, encF_eq]; done))) | refine WK.seq ?_ | ((first | refine WK.reg ?_ | refine WK.skip ?_ | refine WK.ret ?_ | refine WK.exit ?_); simp only [go_sem, seval, reduceCtorEq, encF_eq]) | ((with_reducible refine And.intro ?_ ?_); omega) | omega)
  refine callK_pureL (valid_ok har f hs 6) rfl ?_ ?_ ?_ <;> simp only [go_sem, seval, reduceCtorEq, encF_eq]
  try simp only [go_sem, seval, reduceCtorEq]
  repeat (first | refine WK.blockSeq ?_ | refine WK.blockCond ?_ | refine WK.blockReg ?_ | (refine WK.condT ?_ ?_; (focus (simp only [go_sem, seval, reduceCtorEq]; done))) | (refine WK.condF ?_ ?_; (focus (simp only [go_sem, seval, reduceCtorEq]; done))) | refine WK.seq ?_ | ((first | refine WK.reg ?_ | refine WK.skip ?_ | refine WK.ret ?_ | refine WK.exit ?_); simp only [go_sem, seval, reduceCtorEq]) | ((with_reducible refine And.intro ?_ ?_); omega) | omega)
  exact cut_none _
theorem parse1_ret (σ : Sto) : CallDD (C gl) 95 [.ptr 0 0, .ptr 1 0] .returning σ σ := by
  refine callDD_of b95 (by simp [Tryd.ntmps95]) rfl rfl rfl rfl (.inl ⟨rfl, rfl, rfl⟩) ?_
  rw [Tryd.ntmps95]
  simp only [toK, go_sem, seval, reduceCtorEq]
  refine NK.block (NK.seq (NK.reg ?_))
  simp only [go_sem, seval, reduceCtorEq, inBlk_normal, andN_normal]
  refine NK.cond true (by simp only [go_sem, seval, reduceCtorEq]) (fun _ => NK.reg ?_) (fun h => by cases h)
  simp only [go_sem, seval, reduceCtorEq]
theorem tQ0_n {C : Cx} {nt : Nat} {y : Code} {Q0 : Exit → Env → Sto → Prop} {Q1 : FuncId → List AV → Exit → Env → Sto → Prop} {env : Env} {σ : Sto} : tQ0 C nt y Q0 Q1 .normal env σ = T0 C nt y Q0 Q1 env σ := (rfl)
theorem tQ0_r {C : Cx} {nt : Nat} {y : Code} {Q0 : Exit → Env → Sto → Prop} {Q1 : FuncId → List AV → Exit → Env → Sto → Prop} {env : Env} {σ : Sto} : tQ0 C nt y Q0 Q1 .ret env σ = Q0 .ret env σ := (rfl)
theorem tQ1_n {C : Cx} {nt : Nat} {y : Code} {Q1 : FuncId → List AV → Exit → Env → Sto → Prop} {g : FuncId} {caps : List AV} {env : Env} {σ : Sto} : tQ1 C nt y Q1 g caps .normal env σ = W C none nt y (Q1 g caps) env σ := (rfl)
attribute [go_sem] tQ0_n tQ0_r tQ1_n
theorem parse_ok (hsg : gl.at' 3 = signsA) (har : gl.at' 0 = arityA) (hst : gl.at' 1 = strengthA) (hri : gl.at' 2 = rightA)
    (ns : List Bs) (text : Bs) (n : Nat) (f : Fm) (l : List Bs) (hns : ns.length < 1000000) (hnl : ∀ s ∈ ns, s.length < 1000000000) (hn : namedS ns = 0) (hl : text.length ≤ 16384) (hp : parF ns n (.bin 1) (toksS text) = some (f, l)) :
    PCall (C gl) 37 [.list false (ns.map encT), .str (tx text)] (.tup [encF (parA f l).1, .int .i64 (parA f l).2]) := by
  refine pcallX (callX_T b37 (by simp [Tryd.ntmps37]) ?_) (by simp only [AllCl, cl_str, cl_list, and_true]; exact of_eq_true (clE_T _)) (by simp only [cl_tup, AllCl, cl_encF, cl_int, and_true])
  simp only [Tryd.f37, codeOf]
  have hb0 : decide ((text.length : Int) > 16384) = false := by simp; omega
  refine T0.seq (T0.ofW (W.of ?_))
  simp only [toK, go_sem, seval, reduceCtorEq]
  try simp only [go_sem, seval, reduceCtorEq, hb0, List.length_map]
  repeat (first | refine WK.blockSeq ?_ | refine WK.blockCond ?_ | refine WK.blockReg ?_ | (refine WK.condT ?_ ?_; (focus (simp only [go_sem, seval, reduceCtorEq, hb0, List.length_map]; done))) | (refine WK.condF ?_ ?_; (focus (simp only [go_sem, seval, reduceCtorEq, hb0, List.length_map]; done))) | refine WK.seq ?_ | ((first | refine WK.reg ?_ | refine WK.skip ?_ | refine WK.ret ?_ | refine WK.exit ?_); simp only [go_sem, seval, reduceCtorEq, hb0, List.length_map]) | ((with_reducible refine And.intro ?_ ?_); omega) | omega)
  refine T0.seq (T0.ofW (W.of ?_))
  simp only [toK, go_sem, seval, reduceCtorEq]
  try simp only [go_sem, seval, reduceCtorEq, hb0, List.length_map]
  repeat (first | refine WK.blockSeq ?_ | refine WK.blockCond ?_ | refine WK.blockReg ?_ | (refine WK.condT ?_ ?_; (focus (simp only [go_sem, seval, reduceCtorEq, hb0, List.length_map]; done))) | (refine WK.condF ?_ ?_; (focus (simp only [go_sem, seval, reduceCtorEq, hb0, List.length_map]; done))) | refine WK.seq ?_ | ((first | refine WK.reg ?_ | refine WK.skip ?_ | refine WK.ret ?_ | refine WK.exit ?_); simp only [go_sem, seval, reduceCtorEq, hb0, List.length_map]) | ((with_reducible refine And.intro ?_ ?_); omega) | omega)
  refine callK_pureL (named_ok (gl := gl) ns (by omega) hnl) rfl ?_ ?_ ?_ <;> simp only [go_sem, seval, reduceCtorEq, hb0, List.length_map]
  try simp only [go_sem, seval, reduceCtorEq, hb0, List.length_map, hn, bne]
  repeat (first | refine WK.blockSeq ?_ | refine WK.blockCond ?_ | refine WK.blockReg ?_ | (refine WK.condT ?_ ?_; (focus (simp only [go_sem, seval, reduceCtorEq, hb0, List.length_map, hn, bne]; done))) | (refine WK.condF ?_ ?_; (focus (simp only [go_sem, seval, reduceCtorEq, hb0, List.length_map, hn, bne]; done))) | refine WK.seq ?_ | ((first | refine WK.reg ?_ | refine WK.skip ?_ | refine WK.ret ?_ | refine WK.exit ?_); simp only [go_sem, seval, reduceCtorEq, hb0, List.length_map, hn, bne]) | ((with_reducible refine And.intro ?_ ?_); omega) | omega)
  refine T0.seq (T0.ofW (W.of ?_))
  simp only [toK, go_sem, seval, reduceCtorEq]
  try simp only [go_sem, seval, reduceCtorEq, hb0, List.length_map]
  repeat (first | refine WK.blockSeq ?_ | refine WK.blockCond ?_ | refine WK.blockReg ?_ | (refine WK.condT ?_ ?_; (focus (simp only [go_sem, seval, reduceCtorEq, hb0, List.length_map]; done))) | (refine WK.condF ?_ ?_; (focus (simp only [go_sem, seval, reduceCtorEq, hb0, List.length_map]; done))) | refine WK.seq ?_ | ((first | refine WK.reg ?_ | refine WK.skip ?_ | refine WK.ret ?_ | refine WK.exit ?_); simp only [go_sem, seval, reduceCtorEq, hb0, List.length_map]) | ((with_reducible refine And.intro ?_ ?_); omega) | omega)
  refine T0.seq (T0.defer 1 rfl ?_)
  simp only [toK, go_sem, seval, reduceCtorEq]
  refine ⟨_, _, _, _, rfl, rfl, ?_⟩
  simp only [go_sem, seval, reduceCtorEq]
  refine W.of ?_
  simp only [toK, go_sem, seval, reduceCtorEq]
  try simp only [go_sem, seval, reduceCtorEq, hb0, List.length_map]
  repeat (first | refine WK.blockSeq ?_ | refine WK.blockCond ?_ | refine WK.blockReg ?_ | (refine WK.condT ?_ ?_; (focus (simp only [go_sem, seval, reduceCtorEq, hb0, List.length_map]; done))) | (refine WK.condF ?_ ?_; (focus (simp only [go_sem, seval, reduceCtorEq, hb0, List.length_map]; done))) | refine WK.seq ?_ | ((first | refine WK.reg ?_ | refine WK.skip ?_ | refine WK.ret ?_ | refine WK.exit ?_); simp only [go_sem, seval, reduceCtorEq, hb0, List.length_map]) | ((with_reducible refine And.intro ?_ ?_); omega) | omega)
  refine callK_pureL (tokens_ok (gl := gl) text (by omega)) rfl ?_ ?_ ?_ <;> simp only [go_sem, seval, reduceCtorEq, hb0, List.length_map]
  try simp only [go_sem, seval, reduceCtorEq, hb0, List.length_map]
  repeat (first | refine WK.blockSeq ?_ | refine WK.blockCond ?_ | refine WK.blockReg ?_ | (refine WK.condT ?_ ?_; (focus (simp only [go_sem, seval, reduceCtorEq, hb0, List.length_map]; done))) | (refine WK.condF ?_ ?_; (focus (simp only [go_sem, seval, reduceCtorEq, hb0, List.length_map]; done))) | refine WK.seq ?_ | ((first | refine WK.reg ?_ | refine WK.skip ?_ | refine WK.ret ?_ | refine WK.exit ?_); simp only [go_sem, seval, reduceCtorEq, hb0, List.length_map]) | ((with_reducible refine And.intro ?_ ?_); omega) | omega)
  have hbin := (parse_all hsg har hst hri n).2 n (Nat.le_refl _)
  refine callK_x0 (hbin 2 ns (toksS text) l 1 f _ hp hns (by exact Nat.lt_succ_self 2) (by simp only [go_sem, seval, reduceCtorEq, hb0, List.length_map, pbox]; first | done | omega)) rfl ?_ ?_ ?_ <;> simp only [go_sem, seval, reduceCtorEq, hb0, List.length_map, pbox, encF_eq]
  try simp only [go_sem, seval, reduceCtorEq, hb0, List.length_map, pbox]
  repeat (first | refine WK.blockSeq ?_ | refine WK.blockCond ?_ | refine WK.blockReg ?_ | (refine WK.condT ?_ ?_; (focus (simp only [go_sem, seval, reduceCtorEq, hb0, List.length_map, pbox]; done))) | (refine WK.condF ?_ ?_; (focus (simp only [go_sem, seval, reduceCtorEq, hb0, List.length_map, pbox]; done))) | refine WK.seq ?_ | ((first | refine WK.reg ?_ | refine WK.skip ?_ | refine WK.ret ?_ | refine WK.exit ?_); simp only [go_sem, seval, reduceCtorEq, hb0, List.length_map, pbox]) | ((with_reducible refine And.intro ?_ ?_); omega) | omega)
  cases q1 : decide ((l.length : Int) > 0) with
  | true =>
    have hA : parA f l = (.mk 0 0 [], 4) := by unfold parA; rw [if_pos (by have := of_decide_eq_true q1; omega)]
    rw [hA]
    try simp only [go_sem, seval, reduceCtorEq, hb0, List.length_map, pbox, q1]
    repeat (first | refine WK.blockSeq ?_ | refine WK.blockCond ?_ | refine WK.blockReg ?_ | (refine WK.condT ?_ ?_; (focus (simp only [go_sem, seval, reduceCtorEq, hb0, List.length_map, pbox, q1]; done))) | (refine WK.condF ?_ ?_; (focus (simp only [go_sem, seval, reduceCtorEq, hb0, List.length_map, pbox, q1]; done))) | refine WK.seq ?_ | ((first | refine WK.reg ?_ | refine WK.skip ?_ | refine WK.ret ?_ | refine WK.exit ?_); simp only [go_sem, seval, reduceCtorEq, hb0, List.length_map, pbox, q1]) | ((with_reducible refine And.intro ?_ ?_); omega) | omega)
    refine ⟨.inr (.inl rfl), _, parse1_ret _, ?_⟩
    simp only [go_sem, seval, reduceCtorEq, hb0, List.length_map, pbox]
    exact ⟨AV.le_tup ⟨AV.le_agg ⟨.refl _, .refl _, AV.le_list' _, trivial⟩, .refl _, trivial⟩, cut_none _⟩
  | false =>
  have q1' : ¬ l.length > 0 := by have := of_decide_eq_false q1; omega
  try simp only [go_sem, seval, reduceCtorEq, hb0, List.length_map, pbox, q1]
  repeat (first | refine WK.blockSeq ?_ | refine WK.blockCond ?_ | refine WK.blockReg ?_ | (refine WK.condT ?_ ?_; (focus (simp only [go_sem, seval, reduceCtorEq, hb0, List.length_map, pbox, q1]; done))) | (refine WK.condF ?_ ?_; (focus (simp only [go_sem, seval, reduceCtorEq, hb0, List.length_map, pbox, q1]; done))) | refine WK.seq ?_ | ((first | refine WK.reg ?_ | refine WK.skip ?_ | refine WK.ret ?_ | refine WK.exit ?_); simp only [go_sem, seval, reduceCtorEq, hb0, List.length_map, pbox, q1]) | ((with_reducible refine And.intro ?_ ?_); omega) | omega)
  refine callK_pureL (valid6_ok har f (parF_shrt ns n _ _ _ _ hp (fun _ _ h => by cases h))) rfl ?_ ?_ ?_ <;> simp only [go_sem, seval, reduceCtorEq, hb0, List.length_map, pbox, encF_eq]
  cases q2 : validF f 6 with
  | false =>
    have hA : parA f l = (.mk 0 0 [], 3) := by unfold parA; rw [if_neg q1', q2]; rfl
    rw [hA]
    try simp only [go_sem, seval, reduceCtorEq, hb0, List.length_map, pbox, q2]
    repeat (first | refine WK.blockSeq ?_ | refine WK.blockCond ?_ | refine WK.blockReg ?_ | (refine WK.condT ?_ ?_; (focus (simp only [go_sem, seval, reduceCtorEq, hb0, List.length_map, pbox, q2]; done))) | (refine WK.condF ?_ ?_; (focus (simp only [go_sem, seval, reduceCtorEq, hb0, List.length_map, pbox, q2]; done))) | refine WK.seq ?_ | ((first | refine WK.reg ?_ | refine WK.skip ?_ | refine WK.ret ?_ | refine WK.exit ?_); simp only [go_sem, seval, reduceCtorEq, hb0, List.length_map, pbox, q2]) | ((with_reducible refine And.intro ?_ ?_); omega) | omega)
    refine ⟨.inr (.inl rfl), _, parse1_ret _, ?_⟩
    simp only [go_sem, seval, reduceCtorEq, hb0, List.length_map, pbox]
    exact ⟨AV.le_tup ⟨AV.le_agg ⟨.refl _, .refl _, AV.le_list' _, trivial⟩, .refl _, trivial⟩, cut_none _⟩
  | true =>
    have hA : parA f l = (f, 0) := by unfold parA; rw [if_neg q1', q2]; rfl
    rw [hA]
    try simp only [go_sem, seval, reduceCtorEq, hb0, List.length_map, pbox, q2]
    repeat (first | refine WK.blockSeq ?_ | refine WK.blockCond ?_ | refine WK.blockReg ?_ | (refine WK.condT ?_ ?_; (focus (simp only [go_sem, seval, reduceCtorEq, hb0, List.length_map, pbox, q2]; done))) | (refine WK.condF ?_ ?_; (focus (simp only [go_sem, seval, reduceCtorEq, hb0, List.length_map, pbox, q2]; done))) | refine WK.seq ?_ | ((first | refine WK.reg ?_ | refine WK.skip ?_ | refine WK.ret ?_ | refine WK.exit ?_); simp only [go_sem, seval, reduceCtorEq, hb0, List.length_map, pbox, q2]) | ((with_reducible refine And.intro ?_ ?_); omega) | omega)
    refine WK.ret ?_
    refine ⟨.inr (.inl rfl), _, parse1_ret _, ?_⟩
    simp only [go_sem, seval, reduceCtorEq, hb0, List.length_map, pbox]
    trace_state
    exact cut_none _
end
end Go.Sx
