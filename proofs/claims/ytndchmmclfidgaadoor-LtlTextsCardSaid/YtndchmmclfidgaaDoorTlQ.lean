import Derived.Test.YtndchmmclfidgaaDoorLgAv
import Derived.Test.YtndchmmclfidgaaDoorTlO
import Derived.Test.YtndchmmclfidgaaDoorTlF
import Derived.Test.YtndchmmclfidgaaDoorLgAw
import Derived.Test.YtndchmmclfidgaaDoorTkI
import Derived.Test.YtndchmmclfidgaaDoorTkQ
import Derived.Test.YtndchmmclfidgaaDoorSxJ
set_option maxRecDepth 100000
set_option maxHeartbeats 4000000
set_option linter.unusedSimpArgs false
set_option linter.unusedVariables false
set_option linter.unnecessarySimpa false
namespace Go.Sx
open Go Go.Lg Go.Proofs
theorem b38 {gl : GL} : Body (C gl).P 38 Tryd.f38 (codeOf Tryd.f38) := ⟨Tryd.func38, by kernel_rfl, by kernel_rfl⟩
/-! ## Parse on the reference side -/
theorem idxT_lt {t : Bs} {ns : List Bs} (h : ¬ idxT t ns < 0) : idxT t ns < (ns.length : Int) := by
  obtain ⟨k, hk⟩ : ∃ k : Nat, idxT t ns = (k : Int) := ⟨(idxT t ns).toNat, by omega⟩
  obtain ⟨j, e, hj, _⟩ := idxF_some (fun u => t == u) [] ns 0 k hk
  omega
theorem ar_pre : ∀ k, k < 14 → (signsL.getD k [] == [33] || (signsL.getD k [] == [88] || (signsL.getD k [] == [70] || signsL.getD k [] == [71]))) = true → arityL.getD k 0 = 1 ∧ k ≠ 2 := by decide
/-- The parser's formulas have what their operators ask. -/
theorem parF_node (ns : List Bs) : ∀ (n : Nat) (md : Md) (l l' : List Bs) (f : Fm), parF ns n md l = some (f, l') → (∀ least g, md = .loop least g → ∀ x ∈ nodesF g, okNode ns.length x = true) → ∀ x ∈ nodesF f, okNode ns.length x = true
  | 0, _, _, _, _, h, _ => by simp only [parF] at h; cases h
  | n + 1, .pre, l, l', f, h, _ => by
    cases l with
    | nil => simp only [parF] at h; cases h
    | cons t r =>
    simp only [parF] at h
    split at h
    · cases h
    split at h
    · split at h
      · rename_i g u k e
        split at h
        · cases h
          exact parF_node ns n _ _ _ _ e (fun _ _ h => by cases h)
        · cases h
      · cases h
    split at h
    · cases h; intro x hx; simp only [nodesF, nodesL, List.mem_singleton] at hx; subst hx; rfl
    split at h
    · cases h; intro x hx; simp only [nodesF, nodesL, List.mem_singleton] at hx; subst hx; rfl
    split at h
    · rename_i hp
      split at h
      · rename_i g k e
        cases h
        have ih := parF_node ns n _ _ _ _ e (fun _ _ h => by cases h)
        intro x hx
        simp only [nodesF, nodesL, List.append_nil, List.mem_cons] at hx
        rcases hx with rfl | hx
        · obtain ⟨k, hk⟩ : ∃ k : Nat, opS t = (k : Int) := by
            simp only [opPre, Bool.or_eq_true, beq_iff_eq] at hp
            rcases hp with rfl | rfl | rfl | rfl
            · exact ⟨3, rfl⟩
            · exact ⟨8, rfl⟩
            · exact ⟨9, rfl⟩
            · exact ⟨10, rfl⟩
          obtain ⟨hk14, ht⟩ := op_text hk
          have hp : opPre t = true := hp
          rw [ht] at hp
          obtain ⟨ha, hk2⟩ := ar_pre k hk14 hp
          rw [hk, okNode_eq, Int.toNat_natCast, ha, if_neg (by omega)]
          simp only [Bool.and_eq_true, decide_eq_true_eq, List.length_cons, List.length_nil]
          exact ⟨⟨⟨by omega, by omega⟩, by rfl⟩, trivial⟩
        · exact ih x hx
      · cases h
    split at h
    · cases h
    · rename_i hi
      cases h
      intro x hx
      simp only [nodesF, nodesL, List.mem_singleton] at hx
      subst hx
      have := idxT_lt hi
      rw [okNode_eq, if_pos rfl]
      have ha : arityL.getD (Int.toNat 2) 0 = 0 := rfl
      rw [ha]
      simp only [Bool.and_eq_true, decide_eq_true_eq, List.length_nil]
      omega
  | n + 1, .bin least, l, l', f, h, _ => by
    simp only [parF] at h
    split at h
    · rename_i g k e
      have := parF_node ns n _ _ _ _ e (fun _ _ h => by cases h)
      exact parF_node ns n _ _ _ _ h (fun _ _ h => by cases h; exact this)
    · cases h
  | n + 1, .loop least f0, l, l', f, h, hf => by
    have h0 := hf _ _ rfl
    simp only [parF] at h
    split at h
    · cases h; exact h0
    rename_i hs
    split at h
    · rename_i g k e
      have ih := parF_node ns n _ _ _ _ e (fun _ _ h => by cases h)
      refine parF_node ns n _ _ _ _ h (fun _ _ h => ?_)
      cases h
      obtain ⟨k, hk, ha, _⟩ := nstops (by simpa using hs)
      obtain ⟨hk14, _⟩ := op_text hk
      intro x hx
      simp only [nodesF, nodesL, List.append_nil, List.mem_cons, List.mem_append] at hx
      rcases hx with rfl | hx | hx
      · have hk2 : k ≠ 2 := fun e => by subst e; exact absurd ha (by decide)
        rw [hk, okNode_eq, Int.toNat_natCast, ha, if_neg (by omega)]
        simp only [Bool.and_eq_true, decide_eq_true_eq, List.length_cons, List.length_nil]
        exact ⟨⟨⟨by omega, by omega⟩, by rfl⟩, trivial⟩
      · exact h0 x hx
      · exact ih x hx
    · cases h
theorem okNode_up {n m : Int} (h : n ≤ m) {g : Fm} (hg : okNode n g = true) : okNode m g = true := by
  obtain ⟨o, v, l⟩ := g
  rw [okNode_eq] at hg ⊢
  simp only [Bool.and_eq_true] at hg ⊢
  refine ⟨hg.1, ?_⟩
  have := hg.2
  split at this
  · rename_i e
    rw [if_pos e]
    simp only [Bool.and_eq_true, decide_eq_true_eq] at this ⊢
    exact ⟨this.1, by omega⟩
  · rename_i e
    rw [if_neg e]; exact this
theorem valid6_few {ns : List Bs} {f : Fm} (hn : ns.length ≤ 6) (h : ∀ x ∈ nodesF f, okNode ns.length x = true) : validF f 6 = decide (nodesR 60 f ≤ 60) := by
  rw [Bool.eq_iff_iff, validF_iff, decide_eq_true_eq, nodesR_min f 60 (by decide)]
  constructor
  · rintro ⟨_, _, h, _⟩; omega
  · intro h2
    exact ⟨by decide, by decide, by omega, fun g hg => okNode_up (by omega) (h g hg)⟩
section
variable {gl : GL}
theorem parseR_ok (ns : List Bs) (text : Bs) (hN : NsOK ns) : PCall (C gl) 38 [.list false (ns.map encT), .str (tx text)] (.tup [encF (parseS ns text).1, .int .i64 (parseS ns text).2]) := by
  rw [← parseRS_eq]
  refine pcallX (callX_of b38 (by simp [Tryd.ntmps38]) ?_) (by simp only [AllCl, cl_str, cl_list, and_true]; exact of_eq_true (clE_T _)) (by simp only [cl_tup, AllCl, cl_encF, cl_int, and_true])
  refine W.of ?_
  rw [Tryd.ntmps38]
  simp only [toK, codeOf, Tryd.f38, go_sem, seval, reduceCtorEq]
  have hml : (ns.map encT).length = ns.length := List.length_map _
  have hnm : Ctr (C gl) 99 [.list false (ns.map encT)] True (.int .i64 (namedS ns)) := ⟨fun _ => namedR_ok ns hN⟩
  cases hn : (namedS ns == 0) with
  | false =>
    have hn' : namedS ns ≠ 0 := by simpa using hn
    have e : parseRS ns text = (.mk 0 0 [], namedS ns) := by rw [parseRS, if_pos hn']
    rw [e]
    have hb : (namedS ns != 0) = true := by rw [bne, hn]; rfl
    have H := And.intro @hml (And.intro @hb @hn)
    refine autoA ?_
    try exact trivial
    exact finX cutA
  | true =>
  have hn' : namedS ns = 0 := eq_of_beq hn
  have hn6 := named_len hn'
  cases hl : decide ((text.length : Int) > 16384) with
  | true =>
    have hl' := of_decide_eq_true hl
    have e : parseRS ns text = (.mk 0 0 [], 3) := by rw [parseRS, if_neg (by simpa using hn'), if_pos (by omega)]
    rw [e]
    have H := And.intro @hml (And.intro @hn @hl)
    refine autoA ?_
    try exact trivial
    exact finX cutA
  | false =>
  have hl' := of_decide_eq_false hl
  have htk : Ctr (C gl) 100 [.str (tx text)] True (.tup [.list false ((tokRS text).1.map encT), .bool (tokRS text).2]) := ⟨fun _ => tokensR_ok text (by omega)⟩
  cases hg : (toksS text).all goodT with
  | false =>
    have e : parseRS ns text = (.mk 0 0 [], 4) := by rw [parseRS, if_neg (by simpa using hn'), if_neg (by omega), hg]; rfl
    have et : tokRS text = ([], false) := by unfold tokRS; rw [hg]; rfl
    rw [e]
    rw [et] at htk
    have H := And.intro @hml (And.intro @hn @hl)
    refine autoA ?_
    try exact trivial
    exact finX cutA
  | true =>
  have e : parseRS ns text = parO (parT ns (.bin 1) (toksS text)) := by rw [parseRS, if_neg (by simpa using hn'), if_neg (by omega), hg, if_pos rfl]
  have et : tokRS text = (toksS text, true) := by unfold tokRS; rw [hg]; rfl
  rw [e]
  rw [et] at htk
  have h0 : idxT [] ns < 0 := by
    refine Classical.byContradiction fun h => ?_
    obtain ⟨k, hk⟩ : ∃ k : Nat, idxT [] ns = (k : Int) := ⟨(idxT [] ns).toNat, by omega⟩
    obtain ⟨j, e, hj, hp⟩ := idxF_some (fun u => ([] : Bs) == u) [] ns 0 k hk
    have ht : [] = ns.getD j [] := eq_of_beq hp
    rw [List.getD_eq_getElem?_getD, List.getElem?_eq_getElem hj] at ht
    have hw := name_good hn' ns[j] (List.getElem_mem hj)
    rw [← show [] = ns[j] from ht] at hw
    cases hw
  have hr := rd_all h0 (toksS text)
  have hsh : ∀ f l, parT ns (.bin 1) (toksS text) = some (f, l) → Shrt f ∧ ∀ x ∈ nodesF f, okNode ns.length x = true := fun f l h =>
    ⟨parF_shrt ns _ _ _ _ _ h (fun _ _ h => by cases h), parF_node ns _ _ _ _ _ h (fun _ _ h => by cases h)⟩
  generalize parT ns (.bin 1) (toksS text) = o at hr hsh ⊢
  have H := And.intro @hml (And.intro @hn @hl)
  refine autoN ?_
  try exact trivial
  cases o with
  | none =>
    obtain ⟨f, l, hev⟩ := hr
    refine callK_x0 (read_ev (gl := gl) (id := 1) (s := 1) (Nat.le_refl _) (by omega) hev (by omega) (by simp only [go_sem, seval, reduceCtorEq]) (by simp only [go_sem, seval, reduceCtorEq, rbox]; first | done | omega)) rfl ?_ ?_ ?_ <;> simp only [go_sem, seval, reduceCtorEq, encF_eq]
    simp only [rbox]
    have H := @hml
    refine autoA ?_
    try exact trivial
    exact finX cutA (by first | (simp only [go_sem, seval, reduceCtorEq, parO, encF_fold, encF_fold0, Fm.eta, encFs_fold1, encFs_fold2, encFs_fold3]; done) | (simp only [go_sem, seval, reduceCtorEq, parO, encF_fold, encF_fold0, Fm.eta, encFs_fold1, encFs_fold2, encFs_fold3]; rfl))
  | some p =>
    obtain ⟨f, l⟩ := p
    obtain ⟨hs, hnd⟩ := hsh f l rfl
    have hv := valid6_few hn6 hnd
    have hfew : Ctr (C gl) 26 [encF f, .int .i64 60] True (.bool (validF f 6)) := ⟨fun _ => by rw [hv]; exact fewR_ok f hs 60 (by omega) (by omega)⟩
    refine callK_x0 (read_ev (gl := gl) (id := 1) (s := 1) (Nat.le_refl _) (by omega) hr (by omega) (by simp only [go_sem, seval, reduceCtorEq]) (by simp only [go_sem, seval, reduceCtorEq, rbox]; first | done | omega)) rfl ?_ ?_ ?_ <;> simp only [go_sem, seval, reduceCtorEq, encF_eq]
    simp only [rbox, parO, parA]
    by_cases hl0 : l.length > 0
    · have hd : decide ((l.length : Int) > 0) = true := decide_eq_true (by omega)
      have hlm : (l.map encT).length = l.length := List.length_map _
      rw [if_pos hl0]
      have H := And.intro @hml (And.intro @hd @hlm)
      refine autoA ?_
      try exact trivial
      exact finX cutA
    · have hd : decide ((l.length : Int) > 0) = false := decide_eq_false (by omega)
      have hlm : (l.map encT).length = l.length := List.length_map _
      rw [if_neg hl0]
      cases hv6 : validF f 6 with
      | true =>
        rw [if_pos rfl]
        have H := And.intro @hml (And.intro @hd (And.intro @hlm @hv6))
        refine autoA ?_
        try exact trivial
        exact finX cutA
      | false =>
        rw [if_neg Bool.false_ne_true]
        have H := And.intro @hml (And.intro @hd (And.intro @hlm @hv6))
        refine autoA ?_
        try exact trivial
        exact finX cutA
end
end Go.Sx

set_option maxRecDepth 100000
set_option maxHeartbeats 4000000
set_option linter.unusedSimpArgs false
set_option linter.unusedVariables false
set_option linter.unnecessarySimpa false
namespace Go.Sx
open Go Go.Lg Go.Proofs
theorem b8 {gl : GL} : Body (C gl).P 8 Tryd.f8 (codeOf Tryd.f8) := ⟨Tryd.func8, by kernel_rfl, by kernel_rfl⟩
theorem parseS_short (ns : List Bs) (t : Bs) : Shrt (parseS ns t).1 := by
  have hz : ∀ o : Int, Shrt (.mk o 0 []) := fun o => by simp [Shrt, ShrtL]
  unfold parseS
  split
  · exact hz 0
  split
  · exact hz 0
  cases e : parT ns (.bin 1) (toksS t) with
  | none => exact hz 0
  | some p =>
    obtain ⟨f, l⟩ := p
    show Shrt (parA f l).1
    unfold parA
    split
    · exact hz 0
    split
    · exact parF_shrt ns _ _ _ _ _ e (fun _ _ h => by cases h)
    · exact hz 0
section
variable {gl : GL}
theorem ltltexts_ok (hsg : gl.at' 3 = signsA) (har : gl.at' 0 = arityA) (hst : gl.at' 1 = strengthA) (hri : gl.at' 2 = rightA) (ns : List Bs) (text : Bs) (f : Fm) (hs : Shrt f)
    (hn1 : ns.length < 4611686018427387904) (hn2 : ∀ s ∈ ns, s.length < 100000000000000000) : PCall (C gl) 8 [.list false (ns.map encT), .str (tx text), encF f] (.bool true) := by
  have haw : Ctr (C gl) 36 [] True (.bool true) := ⟨fun _ => awake2_ok hsg har hst hri⟩
  have hfew : ∀ f : Fm, Ctr (C gl) 26 [encF f, .int .i64 300] (Shrt f) (.bool (decide (nodesR 300 f ≤ 300))) := fun f => ⟨fun h => fewR_ok f h 300 (by omega) (by omega)⟩
  have hfn : Ctr (C gl) 35 [.list false (ns.map encT)] True (.bool (fewS ns)) := ⟨fun _ => few_ok ns hn1⟩
  refine pcallX (callX_of b8 (by simp [Tryd.ntmps8]) ?_) (by simp only [AllCl, cl_encF, cl_str, cl_list, and_true]; exact of_eq_true (clE_T _)) (.bool _)
  refine W.of ?_
  rw [Tryd.ntmps8]
  simp only [toK, codeOf, Tryd.f8, go_sem, seval, reduceCtorEq]
  cases k0 : decide ((text.length : Int) > 20000) with
  | true =>
    have H := And.intro @k0 @hs
    refine autoA ?_
    try exact trivial
    exact cut_none _
  | false =>
  cases k1 : decide (nodesR 300 f ≤ 300) with
  | false =>
    have H := And.intro @k0 (And.intro @k1 @hs)
    refine autoA ?_
    try exact trivial
    exact cut_none _
  | true =>
  cases k2 : fewS ns with
  | false =>
    have H := And.intro @k0 (And.intro @k1 (And.intro @k2 @hs))
    refine autoA ?_
    try exact trivial
    exact cut_none _
  | true =>
  have hN := nsOK_of hn1 hn2 k2
  have hpr : Ctr (C gl) 39 [.list false (ns.map encT), encF f] True (.tup [.str (tx (printS ns f).1), .int .i64 (printS ns f).2]) := ⟨fun _ => printN_ok hsg har hst hri ns f hs hN⟩
  have hpr2 : Ctr (C gl) 40 [.list false (ns.map encT), encF f] True (.tup [.str (tx (printS ns f).1), .int .i64 (printS ns f).2]) := ⟨fun _ => printR_ok ns f hs hN⟩
  have hpa : Ctr (C gl) 37 [.list false (ns.map encT), .str (tx text)] True (.tup [encF (parseS ns text).1, .int .i64 (parseS ns text).2]) := ⟨fun _ => parseN_ok hsg har hst hri ns text hN⟩
  have hpa2 : Ctr (C gl) 38 [.list false (ns.map encT), .str (tx text)] True (.tup [encF (parseS ns text).1, .int .i64 (parseS ns text).2]) := ⟨fun _ => parseR_ok ns text hN⟩
  have hsh := parseS_short ns text
  generalize parseS ns text = q at hpa hpa2 hsh
  generalize printS ns f = r at hpr hpr2
  obtain ⟨q1, q2⟩ := q
  obtain ⟨r1, r2⟩ := r
  simp only at hpa hpa2 hpr hpr2 hsh
  have his : Ctr (C gl) 41 [encF q1, .int .i64 q2, encF q1, .int .i64 q2] True (.bool true) := ⟨fun _ => (is_i q1 q2).ok hsh⟩
  have hb1 : (r1 == r1) = true := beq_self_eq_true _
  have hb2 : (r2 == r2) = true := beq_self_eq_true _
  have H := And.intro @k0 (And.intro @k1 (And.intro @k2 (And.intro @hs (And.intro @hb1 @hb2))))
  refine autoA ?_
  try exact trivial
  exact cut_none _
end
end Go.Sx
