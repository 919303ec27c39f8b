import Derived.Test.YtndchmmclfidgaaDoorTlF
import Derived.Test.YtndchmmclfidgaaDoorLgRy
import Derived.Test.YtndchmmclfidgaaDoorTkQ
import Derived.Test.YtndchmmclfidgaaDoorLgAv
import Derived.Test.YtndchmmclfidgaaDoorSxJ
set_option maxRecDepth 100000
set_option maxHeartbeats 4000000
set_option linter.unusedSimpArgs false
set_option linter.unusedVariables false
set_option linter.unnecessarySimpa false
namespace Go.Sx
open Go Go.Lg Go.Proofs
theorem b9 {gl : GL} : Body (C gl).P 9 Tryd.f9 (codeOf Tryd.f9) := ⟨Tryd.func9, by kernel_rfl, by kernel_rfl⟩
/-- The stack of brackets, as a row. -/
def rowE (st : List Nat) : List AV := st.reverse.map fun (k : Nat) => AV.int .i64 k
def stA : Option (Nat × List Nat) → AV
  | none => .list true []
  | some (N, st) => .row N 0 st.length
def stL : Option (Nat × List Nat) → List Nat
  | none => []
  | some (_, st) => st
def stN : Option (Nat × List Nat) → Nat
  | none => 2
  | some (N, _) => N
theorem rowE_len (st : List Nat) : (rowE st).length = st.length := by simp [rowE]
theorem rowE_cons (k : Nat) (st : List Nat) : rowE (k :: st) = rowE st ++ [.int .i64 (k : Int)] := by simp [rowE]
theorem rowE_top (k : Nat) (st : List Nat) : (rowE (k :: st)).getD st.length .undef = .int .i64 (k : Int) := by
  rw [rowE_cons, List.getD_eq_getElem?_getD, List.getElem?_append_right (by rw [rowE_len]; exact Nat.le_refl _), rowE_len, Nat.sub_self]; rfl
theorem rowE_pop (k : Nat) (st : List Nat) : (rowE (k :: st)).take st.length = rowE st := by
  rw [rowE_cons, List.take_append_of_le_length (by rw [rowE_len]; exact Nat.le_refl _), List.take_of_length_le (by rw [rowE_len]; exact Nat.le_refl _)]
theorem rowE_one (st : List Nat) : ∀ x ∈ rowE st, x.cells.all AV.one = true := by
  intro x hx
  obtain ⟨k, _, rfl⟩ := List.mem_map.1 hx
  rfl
def base2 (f : Fm) : Sto := (Sto.none.add (.box [.int .i64 f.op, .int .i64 f.var, .list false (encFs f.args)])).add (.box [.int .i64 f.op, .int .i64 f.var, .list false (encFs f.args)])
def backS (f : Fm) : Option (Nat × List Nat) → Sto
  | none => base2 f
  | some (N, st) => ⟨fun i => if i = N then some (.row 1 (rowE st) false) else (base2 f).get i, N + 1⟩
theorem belE_row {m : Nat} (st : List Nat) : BelE m (rowE st) = True := eq_true (belE_map (fun _ => .int _ _) _)
attribute [go_sem] belE_row
theorem base2_get (f : Fm) {i : Nat} (h : 2 ≤ i) : (base2 f).get i = none := by
  simp only [base2, Sto.get_add, Sto.next_add, Sto.next_none]
  rw [if_neg (by omega), if_neg (by omega)]; rfl
theorem backS_get (f : Fm) (N : Nat) (st : List Nat) (i : Nat) : (backS f (some (N, st))).get i = if i = N then some (.row 1 (rowE st) false) else (base2 f).get i := (rfl)
theorem backS_row (f : Fm) (N : Nat) (st : List Nat) : (backS f (some (N, st))).get N = some (.row 1 (rowE st) false) := if_pos rfl
theorem backS_next (f : Fm) (N : Nat) (st : List Nat) : (backS f (some (N, st))).next = N + 1 := (rfl)
/-- What a round leaves. -/
theorem cutB (f : Fm) (p : Option (Nat × List Nat)) (N : Nat) (st : List Nat) (σ' : Sto) (hp : (backS f p).next ≤ N + 1) (hN : 2 ≤ N) (hn : N + 1 ≤ σ'.next) (h : ∀ i, i < N + 1 → σ'.get i = (backS f (some (N, st))).get i)
    (h2 : ∀ i, i < 2 → (backS f p).get i = (base2 f).get i) (h3 : ∀ i, i < (backS f p).next → i ≠ N → 2 ≤ i → (base2 f).get i = none) : Cut (backS f p) σ' (backS f (some (N, st))) := by
  refine Cut.by' hp hn (fun i hi => .inl ?_) (fun i o hi ho => ⟨?_, ?_⟩)
  · have hi : N + 1 ≤ i := hi
    rw [backS_get, if_neg (by omega), base2_get f (by omega)]
  · rw [h i hi]; exact ho
  · rw [backS_get] at ho
    split at ho
    · cases ho
      right
      simp only [go_sem, seval, reduceCtorEq]
    · left
      by_cases hi2 : i < 2
      · rw [h2 i hi2]; exact ho
      · rw [base2_get f (by omega)] at ho; cases ho
theorem okNode_mono {n m : Int} (h : n ≤ m) {g : Fm} (hg : okNode n g = true) : okNode m g = true := by
  obtain ⟨o, v, l⟩ := g
  rw [okNode_eq] at hg ⊢
  simp only [Bool.and_eq_true] at hg ⊢
  refine ⟨hg.1, ?_⟩
  have := hg.2
  split at this
  · rename_i e
    rw [if_pos e]
    simp only [Bool.and_eq_true, decide_eq_true_eq] at this ⊢
    exact ⟨this.1, by omega⟩
  · rename_i e
    rw [if_neg e]; exact this
theorem parseS_shrt (ns : List Bs) (t : Bs) : Shrt (parseS ns t).1 := by
  have hz : ∀ o : Int, Shrt (.mk o 0 []) := fun o => by simp [Shrt, ShrtL]
  unfold parseS
  split
  · exact hz 0
  split
  · exact hz 0
  cases e : parT ns (.bin 1) (toksS t) with
  | none => exact hz 0
  | some p =>
    obtain ⟨f, l⟩ := p
    show Shrt (parA f l).1
    unfold parA
    split
    · exact hz 0
    split
    · exact parF_shrt ns _ _ _ _ _ e (fun _ _ h => by cases h)
    · exact hz 0
theorem back_facts {ns : List Bs} {f : Fm} (h : ((printS ns f).2 == 0) = true) : ∃ s : Bs, printS ns f = (s, 0) ∧ s.length ≤ 1200 ∧ parseS ns s = (f, 0) ∧ Bal s ∧
    ∀ (k i : Nat), k < i → i < s.length → s[k]? = some 40 → s[i]? = some 41 → ((parseS ns (blank2 s k i)).2 == 0 && sameF (parseS ns (blank2 s k i)).1 f) = false := by
  have k3' := eq_of_beq h
  have hn0 : namedS ns = 0 := by
    unfold printS at k3'
    split at k3'
    · exact k3'
    · rename_i h; exact Classical.byContradiction fun hne => h hne
  have hv : validF f ns.length = true := by
    unfold printS at k3'
    rw [if_neg (by simp [hn0])] at k3'
    split at k3'
    · assumption
    · cases k3'
  have hok := (validF_iff f ns.length).1 hv
  have hn6 := named_len hn0
  have hlen := wr_len ns hn0 f hok.2.2.2
  have hlen60 : (nodesF f).length ≤ 60 := hok.2.2.1
  have hv6 : validF f 6 = true := (validF_iff f 6).2 ⟨by decide, by decide, hok.2.2.1, fun g hg => okNode_mono (by omega) (hok.2.2.2 g hg)⟩
  refine ⟨wrS ns f, ?_, by omega, ?_, bal_wr ns hn0 f hok.2.2.2, fun k i hk hi h1 h2 => ?_⟩
  · unfold printS
    rw [if_neg (by simp [hn0]), if_pos hv]
  · unfold parseS
    rw [if_neg (by simp [hn0]), if_neg (by omega), parse_wr ns hn0 f hok.2.2.2]
    simp [parO, parA, hv6]
  · have hkl : k < (wrS ns f).length := by omega
    rw [List.getElem?_eq_getElem hkl, Option.some.injEq] at h1
    rw [List.getElem?_eq_getElem hi, Option.some.injEq] at h2
    have hne := fun l' => blank_ne hn0 hok.2.2.2 hk hi h1 h2 (l' := l')
    have hbl : (blank2 (wrS ns f) k i).length ≤ 16384 := by
      unfold blank2
      simp only [List.length_append, List.length_take, List.length_drop, List.length_cons, List.length_nil]
      omega
    unfold parseS
    rw [if_neg (by simp [hn0]), if_neg (by omega)]
    generalize parT ns (.bin 1) (toksS (blank2 (wrS ns f) k i)) = p at hne ⊢
    cases p with
    | none => rfl
    | some q =>
      obtain ⟨x, l⟩ := q
      show ((parA x l).2 == 0 && sameF (parA x l).1 f) = false
      unfold parA
      split
      · rfl
      · split
        · rw [Bool.and_eq_false_iff]
          right
          refine Bool.eq_false_iff.2 fun hs => hne l ?_
          rw [(sameF_iff x f).1 hs]
        · rfl
section
variable {gl : GL}
theorem ltlback_ok (hsg : gl.at' 3 = signsA) (har : gl.at' 0 = arityA) (hst : gl.at' 1 = strengthA) (hri : gl.at' 2 = rightA) (ns : List Bs) (f : Fm) (hs : Shrt f)
    (hn1 : ns.length < 4611686018427387904) (hn2 : ∀ s ∈ ns, s.length < 100000000000000000) : PCall (C gl) 9 [.list false (ns.map encT), encF f] (.bool true) := by
  have haw : Ctr (C gl) 36 [] True (.bool true) := ⟨fun _ => awake2_ok hsg har hst hri⟩
  have hfew : ∀ f : Fm, Ctr (C gl) 26 [encF f, .int .i64 300] (Shrt f) (.bool (decide (nodesR 300 f ≤ 300))) := fun f => ⟨fun h => fewR_ok f h 300 (by omega) (by omega)⟩
  have hfn : Ctr (C gl) 35 [.list false (ns.map encT)] True (.bool (fewS ns)) := ⟨fun _ => few_ok ns hn1⟩
  refine pcallX (callX_of b9 (by simp [Tryd.ntmps9]) ?_) (by simp only [AllCl, cl_encF, cl_list, and_true]; exact of_eq_true (clE_T _)) (.bool _)
  refine W.of ?_
  rw [Tryd.ntmps9]
  simp only [toK, codeOf, Tryd.f9, go_sem, seval, reduceCtorEq]
  cases k1 : decide (nodesR 300 f ≤ 300) with
  | false =>
    have H := And.intro @k1 @hs
    refine autoA ?_
    repeat' (first | (refine WK.draw0 (ops := #[_, _, _, _, _, _, _, _, _, _, _, _, _, _, _, _, _]) mixed (by kernel_rfl) ?_; refine autoA ?_))
    try exact trivial
    exact cut_none _
  | true =>
  cases k2 : fewS ns with
  | false =>
    have H := And.intro @k1 (And.intro @k2 @hs)
    refine autoA ?_
    repeat' (first | (refine WK.draw0 (ops := #[_, _, _, _, _, _, _, _, _, _, _, _, _, _, _, _, _]) mixed (by kernel_rfl) ?_; refine autoA ?_))
    try exact trivial
    exact cut_none _
  | true =>
  have hN := nsOK_of hn1 hn2 k2
  have hpr : Ctr (C gl) 39 [.list false (ns.map encT), encF f] True (.tup [.str (tx (printS ns f).1), .int .i64 (printS ns f).2]) := ⟨fun _ => printN_ok hsg har hst hri ns f hs hN⟩
  have hpa : ∀ t : Bs, Ctr (C gl) 37 [.list false (ns.map encT), .str (tx t)] True (.tup [encF (parseS ns t).1, .int .i64 (parseS ns t).2]) := fun t => ⟨fun _ => parseN_ok hsg har hst hri ns t hN⟩
  have hsame : ∀ a g, Ctr (C gl) 32 [encF a, encF g] (Shrt a) (.bool (sameF a g)) := fun a g => ⟨fun h => sameR_ok a h g⟩
  cases k3 : ((printS ns f).2 == 0) with
  | false =>
    have H := And.intro @k1 (And.intro @k2 (And.intro @k3 @hs))
    refine autoA ?_
    repeat' (first | (refine WK.draw0 (ops := #[_, _, _, _, _, _, _, _, _, _, _, _, _, _, _, _, _]) mixed (by kernel_rfl) ?_; refine autoA ?_))
    try exact trivial
    exact cut_none _
  | true =>
  obtain ⟨s, e0, hlen, e1, hbal, hblank⟩ := back_facts k3
  have z1 : sameF f f = true := sameF_self f
  have H := And.intro @k1 (And.intro @k2 (And.intro @hs (And.intro @e0 (And.intro @e1 @z1))))
  refine autoN ?_
  repeat' (first | (refine WK.draw0 (ops := #[_, _, _, _, _, _, _, _, _, _, _, _, _, _, _, _, _]) mixed (by kernel_rfl) ?_; refine autoN ?_))
  try exact trivial
  refine WK.block ?_
  refine WK.loopX [0, 3, 5] [10, 9] (fun p : Nat × Option (Nat × List Nat) => [.int .i64 p.1, stA p.2]) (fun p => backS f p.2)
    (fun p => p.1 ≤ s.length ∧ (stL p.2).length ≤ p.1 ∧ stk p.1 (stL p.2) (s.drop p.1) ≠ none ∧ (∀ k ∈ stL p.2, k < p.1 ∧ s[k]? = some 40) ∧ 2 ≤ stN p.2)
    (fun p => s.length - p.1) (0, none) (by decide) ⟨Nat.zero_le _, Nat.le_refl _, ?_, ⟨(fun k hk => by cases hk), Nat.le_refl _⟩⟩ (by simp only [go_sem, seval, reduceCtorEq, stA]) (by rfl) ?_
  · show stk 0 [] s ≠ none
    have := hbal 0 [] []
    rw [List.append_nil] at this
    rw [this]; simp [stk]
  rintro ⟨i, st⟩ ⟨h1, h2, h3, h4, h5⟩
  simp only at h1 h2 h3 h4 h5
  simp only [go_sem, seval, reduceCtorEq]
  by_cases hb : i < s.length
  · have hbd : decide ((i : Int) < (s.length : Int)) = true := by simp; omega
    have hib : (i : Int) < (s.length : Int) := by omega
    have hw : IntKind.i64.wrap ((i : Int) + 1) = ((i + 1 : Nat) : Int) := by rw [wrap_lt (by omega) (by omega)]; omega
    rw [List.drop_eq_getElem_cons hb, stk_cons] at h3
    have hby : byI s i = (s[i].toNat : Int) := by unfold byI; simp [List.getD_eq_getElem?_getD, hb]
    try simp only [go_sem, seval, reduceCtorEq, hbd, hib, hw]
    repeat (first | refine WK.blockSeq ?_ | refine WK.blockCond ?_ | refine WK.blockReg ?_ | (refine WK.condT ?_ ?_; (focus (simp only [go_sem, seval, reduceCtorEq, hbd, hib, hw]; done))) | (refine WK.condF ?_ ?_; (focus (simp only [go_sem, seval, reduceCtorEq, hbd, hib, hw]; done))) | refine WK.seq ?_ | (with_reducible refine And.intro ?_ ?_; focus omega))
    first | refine WK.reg ?_ | refine WK.skip ?_ | refine WK.ret ?_ | refine WK.exit ?_
    simp only [go_sem, seval, reduceCtorEq, hbd, hib, hw]
    try simp only [go_sem, seval, reduceCtorEq, hbd, hib, hw]
    repeat (first | refine WK.blockSeq ?_ | refine WK.blockCond ?_ | refine WK.blockReg ?_ | (refine WK.condT ?_ ?_; (focus (simp only [go_sem, seval, reduceCtorEq, hbd, hib, hw]; done))) | (refine WK.condF ?_ ?_; (focus (simp only [go_sem, seval, reduceCtorEq, hbd, hib, hw]; done))) | refine WK.seq ?_ | (with_reducible refine And.intro ?_ ?_; focus omega))
    first | refine WK.reg ?_ | refine WK.skip ?_ | refine WK.ret ?_ | refine WK.exit ?_
    simp only [go_sem, seval, reduceCtorEq, hbd, hib, hw]
    try simp only [go_sem, seval, reduceCtorEq, hbd, hib, hw]
    repeat (first | refine WK.blockSeq ?_ | refine WK.blockCond ?_ | refine WK.blockReg ?_ | (refine WK.condT ?_ ?_; (focus (simp only [go_sem, seval, reduceCtorEq, hbd, hib, hw]; done))) | (refine WK.condF ?_ ?_; (focus (simp only [go_sem, seval, reduceCtorEq, hbd, hib, hw]; done))) | refine WK.seq ?_ | (with_reducible refine And.intro ?_ ?_; focus omega))
    first | refine WK.reg ?_ | refine WK.skip ?_ | refine WK.ret ?_ | refine WK.exit ?_
    simp only [go_sem, seval, reduceCtorEq, hbd, hib, hw]
    try simp only [go_sem, seval, reduceCtorEq, hbd, hib, hw]
    repeat (first | refine WK.blockSeq ?_ | refine WK.blockCond ?_ | refine WK.blockReg ?_ | (refine WK.condT ?_ ?_; (focus (simp only [go_sem, seval, reduceCtorEq, hbd, hib, hw]; done))) | (refine WK.condF ?_ ?_; (focus (simp only [go_sem, seval, reduceCtorEq, hbd, hib, hw]; done))) | refine WK.seq ?_ | (with_reducible refine And.intro ?_ ?_; focus omega))
    first | refine WK.reg ?_ | refine WK.skip ?_ | refine WK.ret ?_ | refine WK.exit ?_
    simp only [go_sem, seval, reduceCtorEq, hbd, hib, hw]
    cases q1 : (byI s i == 40) with
    | true =>
      have hc : (s[i] == 40) = true := by
        rw [hby] at q1
        have := eq_of_beq q1
        exact beq_iff_eq.2 (UInt8.toNat_inj.1 (by show s[i].toNat = 40; omega))
      rw [if_pos hc] at h3
      cases st with
      | none =>
        try simp only [go_sem, seval, reduceCtorEq, hbd, hib, hw, stA, q1]
        repeat (first | refine WK.blockSeq ?_ | refine WK.blockCond ?_ | refine WK.blockReg ?_ | (refine WK.condT ?_ ?_; (focus (simp only [go_sem, seval, reduceCtorEq, hbd, hib, hw, stA, q1]; done))) | (refine WK.condF ?_ ?_; (focus (simp only [go_sem, seval, reduceCtorEq, hbd, hib, hw, stA, q1]; done))) | refine WK.seq ?_ | (with_reducible refine And.intro ?_ ?_; focus omega))
        try simp only [go_sem, seval, reduceCtorEq, hbd, hib, hw, stA, q1]
        repeat (first | refine WK.blockSeq ?_ | refine WK.blockCond ?_ | refine WK.blockReg ?_ | (refine WK.condT ?_ ?_; (focus (simp only [go_sem, seval, reduceCtorEq, hbd, hib, hw, stA, q1]; done))) | (refine WK.condF ?_ ?_; (focus (simp only [go_sem, seval, reduceCtorEq, hbd, hib, hw, stA, q1]; done))) | refine WK.seq ?_ | (with_reducible refine And.intro ?_ ?_; focus omega))
        first | refine WK.reg ?_ | refine WK.skip ?_ | refine WK.ret ?_ | refine WK.exit ?_
        simp only [go_sem, seval, reduceCtorEq, hbd, hib, hw, stA, q1]
        refine appK_row (f := true) (xs := []) (ys := [.int .i64 (i : Int)]) (by first | (simp only [go_sem, seval, reduceCtorEq]; done) | (simp only [go_sem, seval, reduceCtorEq]; rfl)) (by first | (simp only [go_sem, seval, reduceCtorEq]; done) | (simp only [go_sem, seval, reduceCtorEq]; rfl)) (fun x hx => by cases hx) (by first | (simp only [go_sem, seval, reduceCtorEq]; done) | (simp only [go_sem, seval, reduceCtorEq]; rfl)) (by first | (simp only [go_sem, seval, reduceCtorEq]; done) | (simp only [go_sem, seval, reduceCtorEq]; rfl)) ?_ (by simp) (by kernel_rfl) (by first | (simp only [go_sem, seval, reduceCtorEq, List.length_cons, List.length_nil]; done) | (simp only [go_sem, seval, reduceCtorEq, List.length_cons, List.length_nil]; omega)) (by first | (simp only [go_sem, seval, reduceCtorEq, List.length_cons, List.length_nil]; done) | (simp only [go_sem, seval, reduceCtorEq, List.length_cons, List.length_nil]; omega)) ?_
        · intro x hx
          rw [List.mem_singleton] at hx
          subst hx
          exact ⟨rfl, rfl⟩
        simp only [go_sem, seval, reduceCtorEq, List.nil_append, List.length_nil]
        try simp only [go_sem, seval, reduceCtorEq, hbd, hib, hw, hw, stA]
        repeat (first | refine WK.blockSeq ?_ | refine WK.blockCond ?_ | refine WK.blockReg ?_ | (refine WK.condT ?_ ?_; (focus (simp only [go_sem, seval, reduceCtorEq, hbd, hib, hw, hw, stA]; done))) | (refine WK.condF ?_ ?_; (focus (simp only [go_sem, seval, reduceCtorEq, hbd, hib, hw, hw, stA]; done))) | refine WK.seq ?_ | ((first | refine WK.reg ?_ | refine WK.skip ?_ | refine WK.ret ?_ | refine WK.exit ?_); simp only [go_sem, seval, reduceCtorEq, hbd, hib, hw, hw, stA]) | ((with_reducible refine And.intro ?_ ?_); omega) | omega)
        refine ⟨(i + 1, some (2, [i])), ⟨by simp only; omega, by simp only [stL, List.length_cons, List.length_nil]; omega, h3, fun k hk => ?_, Nat.le_refl _⟩, by simp only; omega, ⟨.refl _, .refl _, by simp only [go_sem, seval, reduceCtorEq, backS]; first | done | omega⟩, ?_⟩
        · simp only [stL, List.mem_singleton] at hk
          subst hk
          exact ⟨Nat.lt_succ_self _, by rw [List.getElem?_eq_getElem hb, eq_of_beq hc]⟩
        · refine cutB f none 2 [i] _ (by show 2 ≤ 3; decide) (Nat.le_refl _) (Nat.le_refl _) (fun j hj => ?_) (fun _ _ => rfl) (fun j _ _ hj => base2_get f hj)
          rfl
      | some q =>
        obtain ⟨N, st⟩ := q
        have h5 : 2 ≤ N := h5
        have hst1 : st.length < 1300 := by simp only [stL] at h2; omega
        try simp only [go_sem, seval, reduceCtorEq, hbd, hib, hw, stA, q1]
        repeat (first | refine WK.blockSeq ?_ | refine WK.blockCond ?_ | refine WK.blockReg ?_ | (refine WK.condT ?_ ?_; (focus (simp only [go_sem, seval, reduceCtorEq, hbd, hib, hw, stA, q1]; done))) | (refine WK.condF ?_ ?_; (focus (simp only [go_sem, seval, reduceCtorEq, hbd, hib, hw, stA, q1]; done))) | refine WK.seq ?_ | (with_reducible refine And.intro ?_ ?_; focus omega))
        try simp only [go_sem, seval, reduceCtorEq, hbd, hib, hw, stA, q1]
        repeat (first | refine WK.blockSeq ?_ | refine WK.blockCond ?_ | refine WK.blockReg ?_ | (refine WK.condT ?_ ?_; (focus (simp only [go_sem, seval, reduceCtorEq, hbd, hib, hw, stA, q1]; done))) | (refine WK.condF ?_ ?_; (focus (simp only [go_sem, seval, reduceCtorEq, hbd, hib, hw, stA, q1]; done))) | refine WK.seq ?_ | (with_reducible refine And.intro ?_ ?_; focus omega))
        first | refine WK.reg ?_ | refine WK.skip ?_ | refine WK.ret ?_ | refine WK.exit ?_
        simp only [go_sem, seval, reduceCtorEq, hbd, hib, hw, stA, q1]
        refine appK_rr (f := true) (id := N) (es := 1) (n := st.length) (xs := rowE st) (ys := [.int .i64 (i : Int)]) (by first | (simp only [go_sem, seval, reduceCtorEq]; done) | (simp only [go_sem, seval, reduceCtorEq]; rfl)) (by first | (simp only [go_sem, seval, reduceCtorEq]; done) | (simp only [go_sem, seval, reduceCtorEq]; rfl)) (backS_row f N st) (by first | (simp only [go_sem, seval, reduceCtorEq]; done) | (simp only [go_sem, seval, reduceCtorEq]; rfl)) (rowE_len st).symm (rowE_one st) (by first | (simp only [go_sem, seval, reduceCtorEq]; done) | (simp only [go_sem, seval, reduceCtorEq]; rfl)) (by first | (simp only [go_sem, seval, reduceCtorEq]; done) | (simp only [go_sem, seval, reduceCtorEq]; rfl)) ?_ (by kernel_rfl) (by first | (simp only [go_sem, seval, reduceCtorEq, List.length_cons, List.length_nil]; done) | (simp only [go_sem, seval, reduceCtorEq, List.length_cons, List.length_nil]; omega)) (by first | (simp only [go_sem, seval, reduceCtorEq, List.length_cons, List.length_nil]; done) | (simp only [go_sem, seval, reduceCtorEq, List.length_cons, List.length_nil]; omega)) ?_
        · intro x hx
          rw [List.mem_singleton] at hx
          subst hx
          exact ⟨rfl, rfl⟩
        simp only [go_sem, seval, reduceCtorEq, ← rowE_cons, backS_next]
        try simp only [go_sem, seval, reduceCtorEq, hbd, hib, hw, hw, stA, backS_next]
        repeat (first | refine WK.blockSeq ?_ | refine WK.blockCond ?_ | refine WK.blockReg ?_ | (refine WK.condT ?_ ?_; (focus (simp only [go_sem, seval, reduceCtorEq, hbd, hib, hw, hw, stA, backS_next]; done))) | (refine WK.condF ?_ ?_; (focus (simp only [go_sem, seval, reduceCtorEq, hbd, hib, hw, hw, stA, backS_next]; done))) | refine WK.seq ?_ | ((first | refine WK.reg ?_ | refine WK.skip ?_ | refine WK.ret ?_ | refine WK.exit ?_); simp only [go_sem, seval, reduceCtorEq, hbd, hib, hw, hw, stA, backS_next]) | ((with_reducible refine And.intro ?_ ?_); omega) | omega)
        refine ⟨(i + 1, some (N + 1, i :: st)), ⟨by simp only; omega, by simp only [stL, List.length_cons] at h2 ⊢; omega, h3, fun k hk => ?_, by show 2 ≤ N + 1; omega⟩, by simp only; omega, ⟨.refl _, .refl _, by simp only [go_sem, seval, reduceCtorEq, backS_next]; first | done | omega⟩, ?_⟩
        · simp only [stL, List.mem_cons] at hk
          rcases hk with rfl | hk
          · exact ⟨Nat.lt_succ_self _, by rw [List.getElem?_eq_getElem hb, eq_of_beq hc]⟩
          · have := h4 k hk; exact ⟨by omega, this.2⟩
        · refine cutB f _ (N + 1) (i :: st) _ (by rw [backS_next]; omega) (by omega) (by rw [Sto.next_add]; show N + 2 ≤ N + 1 + 1; omega) (fun j hj => ?_) (fun j hj => by rw [backS_get, if_neg (by omega)]) (fun j _ _ hj => base2_get f hj)
          rw [Sto.get_add, backS_get]
          show (if j = N + 1 then _ else if j = N then none else (backS f (some (N, st))).get j) = _
          rw [backS_get]
          by_cases e1 : j = N + 1
          · rw [if_pos e1, if_pos e1]
          · rw [if_neg e1, if_neg e1]
            by_cases e2 : j = N
            · rw [if_pos e2, e2, base2_get f h5]
            · rw [if_neg e2, if_neg e2]
    | false =>
      have hc : (s[i] == 40) = false := by
        rw [hby] at q1
        refine Bool.eq_false_iff.2 fun h => ?_
        rw [eq_of_beq h] at q1; cases q1
      rw [if_neg (by rw [hc]; exact Bool.false_ne_true)] at h3
      try simp only [go_sem, seval, reduceCtorEq, hbd, hib, hw, q1]
      repeat (first | refine WK.blockSeq ?_ | refine WK.blockCond ?_ | refine WK.blockReg ?_ | (refine WK.condT ?_ ?_; (focus (simp only [go_sem, seval, reduceCtorEq, hbd, hib, hw, q1]; done))) | (refine WK.condF ?_ ?_; (focus (simp only [go_sem, seval, reduceCtorEq, hbd, hib, hw, q1]; done))) | refine WK.seq ?_ | (with_reducible refine And.intro ?_ ?_; focus omega))
      try simp only [go_sem, seval, reduceCtorEq, hbd, hib, hw, q1]
      repeat (first | refine WK.blockSeq ?_ | refine WK.blockCond ?_ | refine WK.blockReg ?_ | (refine WK.condT ?_ ?_; (focus (simp only [go_sem, seval, reduceCtorEq, hbd, hib, hw, q1]; done))) | (refine WK.condF ?_ ?_; (focus (simp only [go_sem, seval, reduceCtorEq, hbd, hib, hw, q1]; done))) | refine WK.seq ?_ | (with_reducible refine And.intro ?_ ?_; focus omega))
      first | refine WK.reg ?_ | refine WK.skip ?_ | refine WK.ret ?_ | refine WK.exit ?_
      simp only [go_sem, seval, reduceCtorEq, hbd, hib, hw, q1]
      cases q2 : (byI s i == 41) with
      | true =>
        have hc2 : (s[i] == 41) = true := by
          rw [hby] at q2
          have := eq_of_beq q2
          exact beq_iff_eq.2 (UInt8.toNat_inj.1 (by show s[i].toNat = 41; omega))
        rw [if_pos hc2] at h3
        cases st with
        | none => exact absurd rfl h3
        | some q =>
          obtain ⟨N, st⟩ := q
          have h5 : 2 ≤ N := h5
          cases st with
          | nil => exact absurd rfl h3
          | cons k st =>
            have h3 : stk (i + 1) st (s.drop (i + 1)) ≠ none := h3
            have hk := h4 k (by simp [stL])
            have hst1 : st.length < 1300 := by simp only [stL, List.length_cons] at h2; omega
            have hwn : IntKind.i64.wrap (((st.length + 1 : Nat) : Int) - 1) = (st.length : Int) := by rw [wrap_lt (by omega) (by omega)]; omega
            have hgt := backS_row f N (k :: st)
            have hz : (((st.length + 1 : Nat) : Int) == 0) = false := by simp; omega
            try simp only [go_sem, seval, reduceCtorEq, hbd, hib, hw, stA, q2]
            repeat (first | refine WK.blockSeq ?_ | refine WK.blockCond ?_ | refine WK.blockReg ?_ | (refine WK.condT ?_ ?_; (focus (simp only [go_sem, seval, reduceCtorEq, hbd, hib, hw, stA, q2]; done))) | (refine WK.condF ?_ ?_; (focus (simp only [go_sem, seval, reduceCtorEq, hbd, hib, hw, stA, q2]; done))) | refine WK.seq ?_ | (with_reducible refine And.intro ?_ ?_; focus omega))
            try simp only [go_sem, seval, reduceCtorEq, hbd, hib, hw, stA, q2, List.length_cons, hz]
            repeat (first | refine WK.blockSeq ?_ | refine WK.blockCond ?_ | refine WK.blockReg ?_ | (refine WK.condT ?_ ?_; (focus (simp only [go_sem, seval, reduceCtorEq, hbd, hib, hw, stA, q2, List.length_cons, hz]; done))) | (refine WK.condF ?_ ?_; (focus (simp only [go_sem, seval, reduceCtorEq, hbd, hib, hw, stA, q2, List.length_cons, hz]; done))) | refine WK.seq ?_ | (with_reducible refine And.intro ?_ ?_; focus omega))
            first | refine WK.reg ?_ | refine WK.skip ?_ | refine WK.ret ?_ | refine WK.exit ?_
            simp only [go_sem, seval, reduceCtorEq, hbd, hib, hw, stA, q2, List.length_cons, hz]
            try simp only [go_sem, seval, reduceCtorEq, hbd, hib, hw, stA, q2, hz]
            repeat (first | refine WK.blockSeq ?_ | refine WK.blockCond ?_ | refine WK.blockReg ?_ | (refine WK.condT ?_ ?_; (focus (simp only [go_sem, seval, reduceCtorEq, hbd, hib, hw, stA, q2, hz]; done))) | (refine WK.condF ?_ ?_; (focus (simp only [go_sem, seval, reduceCtorEq, hbd, hib, hw, stA, q2, hz]; done))) | refine WK.seq ?_ | (with_reducible refine And.intro ?_ ?_; focus omega))
            try simp only [go_sem, seval, reduceCtorEq, hbd, hib, hw]
            repeat (first | refine WK.blockSeq ?_ | refine WK.blockCond ?_ | refine WK.blockReg ?_ | (refine WK.condT ?_ ?_; (focus (simp only [go_sem, seval, reduceCtorEq, hbd, hib, hw]; done))) | (refine WK.condF ?_ ?_; (focus (simp only [go_sem, seval, reduceCtorEq, hbd, hib, hw]; done))) | refine WK.seq ?_ | (with_reducible refine And.intro ?_ ?_; focus omega))
            first | refine WK.reg ?_ | refine WK.skip ?_ | refine WK.ret ?_ | refine WK.exit ?_
            simp only [go_sem, seval, reduceCtorEq, hbd, hib, hw]
            try simp only [go_sem, seval, reduceCtorEq, hbd, hib, hw, stA, hwn, hgt, List.length_cons, rowE_len, rowE_top]
            repeat (first | refine WK.blockSeq ?_ | refine WK.blockCond ?_ | refine WK.blockReg ?_ | (refine WK.condT ?_ ?_; (focus (simp only [go_sem, seval, reduceCtorEq, hbd, hib, hw, stA, hwn, hgt, List.length_cons, rowE_len, rowE_top]; done))) | (refine WK.condF ?_ ?_; (focus (simp only [go_sem, seval, reduceCtorEq, hbd, hib, hw, stA, hwn, hgt, List.length_cons, rowE_len, rowE_top]; done))) | refine WK.seq ?_ | (with_reducible refine And.intro ?_ ?_; focus omega))
            first | refine WK.reg ?_ | refine WK.skip ?_ | refine WK.ret ?_ | refine WK.exit ?_
            simp only [go_sem, seval, reduceCtorEq, hbd, hib, hw, stA, hwn, hgt, List.length_cons, rowE_len, rowE_top]
            refine ⟨⟨by omega, by omega⟩, by omega, ?_⟩
            try simp only [go_sem, seval, reduceCtorEq, hbd, hib, hw]
            repeat (first | refine WK.blockSeq ?_ | refine WK.blockCond ?_ | refine WK.blockReg ?_ | (refine WK.condT ?_ ?_; (focus (simp only [go_sem, seval, reduceCtorEq, hbd, hib, hw]; done))) | (refine WK.condF ?_ ?_; (focus (simp only [go_sem, seval, reduceCtorEq, hbd, hib, hw]; done))) | refine WK.seq ?_ | (with_reducible refine And.intro ?_ ?_; focus omega))
            try simp only [go_sem, seval, reduceCtorEq, hbd, hib, hw, stA, hwn, hgt, List.length_cons, rowE_len, rowE_top]
            repeat (first | refine WK.blockSeq ?_ | refine WK.blockCond ?_ | refine WK.blockReg ?_ | (refine WK.condT ?_ ?_; (focus (simp only [go_sem, seval, reduceCtorEq, hbd, hib, hw, stA, hwn, hgt, List.length_cons, rowE_len, rowE_top]; done))) | (refine WK.condF ?_ ?_; (focus (simp only [go_sem, seval, reduceCtorEq, hbd, hib, hw, stA, hwn, hgt, List.length_cons, rowE_len, rowE_top]; done))) | refine WK.seq ?_ | (with_reducible refine And.intro ?_ ?_; focus omega))
            first | refine WK.reg ?_ | refine WK.skip ?_ | refine WK.ret ?_ | refine WK.exit ?_
            simp only [go_sem, seval, reduceCtorEq, hbd, hib, hw, stA, hwn, hgt, List.length_cons, rowE_len, rowE_top]
            refine ⟨⟨by omega, by omega⟩, ?_⟩
            refine WK.rowtrunc N st.length hgt ?_
            rw [rowE_pop]
            have hki : (k : Int) < (i : Int) := by have := hk.1; omega
            have hwk : IntKind.i64.wrap ((k : Int) + 1) = ((k + 1 : Nat) : Int) := by rw [wrap_lt (by omega) (by omega)]; omega
            try simp only [go_sem, seval, reduceCtorEq, hbd, hib, hw]
            repeat (first | refine WK.blockSeq ?_ | refine WK.blockCond ?_ | refine WK.blockReg ?_ | (refine WK.condT ?_ ?_; (focus (simp only [go_sem, seval, reduceCtorEq, hbd, hib, hw]; done))) | (refine WK.condF ?_ ?_; (focus (simp only [go_sem, seval, reduceCtorEq, hbd, hib, hw]; done))) | refine WK.seq ?_ | (with_reducible refine And.intro ?_ ?_; focus omega))
            refine WK.draw0 mixed (by kernel_rfl) ?_
            simp only [go_sem, seval, reduceCtorEq, hbd, hib, hw, hwk, List.take_length, Int.toNat_natCast]
            refine ⟨⟨by omega, by omega, by omega⟩, by simp only [List.length_append, List.length_take, List.length_drop, List.length_cons, List.length_nil]; omega, ⟨by omega, by omega, by omega, by omega⟩, by simp only [List.length_append, List.length_take, List.length_drop, List.length_cons, List.length_nil]; omega,
              by simp only [List.length_append, List.length_take, List.length_drop, List.length_cons, List.length_nil]; omega, ⟨by omega, by omega⟩, by simp only [List.length_append, List.length_take, List.length_drop, List.length_cons, List.length_nil]; omega, ?_⟩
            have hbl : List.take k s ++ [32] ++ List.drop (k + 1) (List.take i s) ++ [32] ++ List.drop (i + 1) s = blank2 s k i := rfl
            rw [hbl]
            have hb2 := hblank k i hk.1 hb hk.2 (by rw [List.getElem?_eq_getElem hb, eq_of_beq hc2])
            have hsh := parseS_shrt ns (blank2 s k i)
            have hS : (((backS f (some (N, k :: st))).set N (.row 1 (rowE st) false)).get 0) = some (.box [.int .i64 f.op, .int .i64 f.var, .list false (encFs f.args)]) := by
              rw [Sto.get_set, if_neg (by omega), backS_get, if_neg (by omega)]; rfl
            have hgo : ∀ (σ' : Sto), N + 1 ≤ σ'.next → (∀ j, j < N + 1 → σ'.get j = ((backS f (some (N, k :: st))).set N (.row 1 (rowE st) false)).get j) → Cut (backS f (some (N, k :: st))) σ' (backS f (some (N, st))) := fun σ' hn hj => by
              refine cutB f _ N st _ (Nat.le_refl _) h5 hn (fun j hjj => ?_) (fun j hj => by rw [backS_get, if_neg (by omega)]) (fun j _ _ hj => base2_get f hj)
              rw [hj j hjj, Sto.get_set, backS_get, backS_get]
              by_cases e1 : j = N
              · rw [if_pos e1, if_pos e1]
              · rw [if_neg e1, if_neg e1, if_neg e1]
            have hN1 : ((backS f (some (N, k :: st))).set N (.row 1 (rowE st) false)).next = N + 1 := rfl
            generalize (backS f (some (N, k :: st))).set N (.row 1 (rowE st) false) = σ1 at hgo hS hN1 ⊢
            have hpb := hpa (blank2 s k i)
            clear hpa e1
            generalize parseS ns (blank2 s k i) = q at hb2 hsh hpb ⊢
            have hn0 : (0 = σ1.next) = False := by simp; omega
            have hnx : ∀ j, (0 = σ1.next + j) = False := fun j => by simp; omega
            have hend : ∀ xs, Cut (backS f (some (N, k :: st))) (σ1.add (.box xs)) (backS f (some (N, st))) := fun xs => by
              refine hgo _ (by rw [Sto.next_add]; omega) fun j hj => ?_
              rw [Sto.get_add, if_neg (by omega)]
            cases q3 : (q.2 == 0) with
            | false =>
              have H := And.intro @hbd (And.intro @hib (And.intro @hw (And.intro @q3 (And.intro @hS (And.intro @hn0 (And.intro @hnx (And.intro @hw @hsh)))))))
              refine autoN ?_
              repeat' (first | (refine WK.draw0 (ops := #[_, _, _, _, _, _, _, _, _, _, _, _, _, _, _, _, _]) mixed (by kernel_rfl) ?_; refine autoN ?_))
              try exact trivial
              refine ⟨(i + 1, some (N, st)), ⟨by simp only; omega, by simp only [stL, List.length_cons] at h2 ⊢; omega, h3, fun j hj => ?_, h5⟩, by simp only; omega, ⟨.refl _, .refl _, by simp only [go_sem, seval, reduceCtorEq, backS_next]; first | done | omega⟩, hend _⟩
              have := h4 j (List.mem_cons_of_mem _ hj); exact ⟨by simp only; omega, this.2⟩
            | true =>
              rw [q3, Bool.true_and] at hb2
              have H := And.intro @hbd (And.intro @hib (And.intro @hw (And.intro @q3 (And.intro @hb2 (And.intro @hS (And.intro @hn0 (And.intro @hnx (And.intro @hw @hsh))))))))
              refine autoN ?_
              repeat' (first | (refine WK.draw0 (ops := #[_, _, _, _, _, _, _, _, _, _, _, _, _, _, _, _, _]) mixed (by kernel_rfl) ?_; refine autoN ?_))
              try exact trivial
              refine ⟨(i + 1, some (N, st)), ⟨by simp only; omega, by simp only [stL, List.length_cons] at h2 ⊢; omega, h3, fun j hj => ?_, h5⟩, by simp only; omega, ⟨.refl _, .refl _, by simp only [go_sem, seval, reduceCtorEq, backS_next]; first | done | omega⟩, hend _⟩
              have := h4 j (List.mem_cons_of_mem _ hj); exact ⟨by simp only; omega, this.2⟩
      | false =>
        have hc2 : (s[i] == 41) = false := by
          rw [hby] at q2
          refine Bool.eq_false_iff.2 fun h => ?_
          rw [eq_of_beq h] at q2; cases q2
        rw [if_neg (by rw [hc2]; exact Bool.false_ne_true)] at h3
        try simp only [go_sem, seval, reduceCtorEq, hbd, hib, hw, q2, hw]
        repeat (first | refine WK.blockSeq ?_ | refine WK.blockCond ?_ | refine WK.blockReg ?_ | (refine WK.condT ?_ ?_; (focus (simp only [go_sem, seval, reduceCtorEq, hbd, hib, hw, q2, hw]; done))) | (refine WK.condF ?_ ?_; (focus (simp only [go_sem, seval, reduceCtorEq, hbd, hib, hw, q2, hw]; done))) | refine WK.seq ?_ | ((first | refine WK.reg ?_ | refine WK.skip ?_ | refine WK.ret ?_ | refine WK.exit ?_); simp only [go_sem, seval, reduceCtorEq, hbd, hib, hw, q2, hw]) | ((with_reducible refine And.intro ?_ ?_); omega) | omega)
        refine ⟨(i + 1, st), ⟨by simp only; omega, by simp only; omega, h3, fun j hj => ?_, h5⟩, by simp only; omega, ⟨rfl, .refl _, ?_⟩, .refl _⟩
        · have := h4 j hj; exact ⟨by simp only; omega, this.2⟩
        · rcases st with _ | ⟨N, st⟩
          · simp only [stA, go_sem, seval, reduceCtorEq]
          · simp only [stA, go_sem, seval, reduceCtorEq, backS_next]; first | done | omega
  · have hbd : decide ((i : Int) < (s.length : Int)) = false := by simp; omega
    have H := @hbd
    refine autoA ?_
    repeat' (first | (refine WK.draw0 (ops := #[_, _, _, _, _, _, _, _, _, _, _, _, _, _, _, _, _]) mixed (by kernel_rfl) ?_; refine autoA ?_))
    try exact trivial
    exact cut_none _
end
end Go.Sx
