import Derived.Test.YtndchmmclfidgaaDoorTkB
set_option maxRecDepth 100000
set_option linter.unusedSimpArgs false
set_option linter.unusedVariables false
set_option linter.unnecessarySimpa false
namespace Go.Sx
open Go Go.Lg Go.Proofs

/-! ## The parser -/
def signsL : List Bs := [trueT, falseT, [], [33], [38], [124], impT, iffT, [88], [70], [71], [85], [82], [87]]
def strengthL : List Int := [9, 9, 9, 6, 4, 3, 2, 1, 6, 6, 6, 5, 5, 5]
def rightL : List Bool := [false, false, false, false, false, false, true, false, false, false, false, true, true, true]
def signsA : List AV := signsL.map encT
def strengthA : List AV := strengthL.map (AV.int .i64)
def rightA : List AV := rightL.map AV.bool
def opS (s : Bs) : Int := if s == [] then -1 else idxF (fun t => s == t) signsL 0
theorem idxF_lt {A : Type} (p : A → Bool) : ∀ (l : List A) (i : Nat), -1 ≤ idxF p l i ∧ idxF p l i < ((i + l.length : Nat) : Int) ∨ idxF p l i = -1
  | [], _ => .inr rfl
  | x :: l, i => by
    unfold idxF
    split
    · left; simp only [List.length_cons]; omega
    · rcases idxF_lt p l (i + 1) with h | h
      · left; simp only [List.length_cons] at h ⊢; omega
      · exact .inr h
theorem cut_set {σ : Sto} {id : Nat} {o : AObj} (hl : id < σ.next) (hb : BelO σ.next o) : Cut σ (σ.set id o) (σ.set id o) := by
  refine Cut.by' (Nat.le_refl _) (Nat.le_refl _) (fun i hi => .inr ?_) (fun i o' hi ho => ⟨ho, ?_⟩)
  · have hi : σ.next ≤ i := hi
    rw [Sto.get_set, if_neg (by omega)]
  · rw [Sto.get_set] at ho
    split at ho
    · cases ho; exact .inr hb
    · exact .inl ho
section
variable {gl : GL}
theorem operator_ok (hsg : gl.at' 3 = signsA) (s : Bs) : PCall (C gl) 158 [.str (tx s)] (.int .i64 (opS s)) := by
  refine pcallX (callX_of b158 (by simp [Tryd.ntmps158]) ?_) (by simp only [AllCl, cl_str, and_true]) (.int _ _)
  refine W.of ?_
  rw [Tryd.ntmps158]
  simp only [toK, codeOf, Tryd.f158, go_sem, seval, reduceCtorEq]
  have hsg : (C gl).gl 3 = signsA := hsg
  have e14 : signsA.length = 14 := rfl
  have e15 : signsA.take 14 = signsA := rfl
  try simp only [go_sem, seval, reduceCtorEq, hsg, e14, e15]
  repeat (first | refine WK.blockSeq ?_ | refine WK.blockCond ?_ | refine WK.blockReg ?_ | (refine WK.condT ?_ ?_; (focus (simp only [go_sem, seval, reduceCtorEq, hsg, e14, e15]; done))) | (refine WK.condF ?_ ?_; (focus (simp only [go_sem, seval, reduceCtorEq, hsg, e14, e15]; done))) | refine WK.seq ?_ | ((first | refine WK.reg ?_ | refine WK.skip ?_ | refine WK.ret ?_ | refine WK.exit ?_); simp only [go_sem, seval, reduceCtorEq, hsg, e14, e15]) | ((with_reducible refine And.intro ?_ ?_); omega) | omega)
  refine WK.block ?_
  refine WK.loopX [0, 5] [6] (fun k : Nat => [.int .i64 k]) (fun _ => Sto.none) (fun k => k ≤ 14 ∧ ((s == []) = false → ∀ x ∈ signsL.take k, (s == x) = false)) (fun k => 14 - k) 0 (by decide) ⟨by decide, fun _ x hx => by simp at hx⟩ (by simp only [go_sem, seval, reduceCtorEq]) rfl ?_
  rintro k ⟨hk, hI⟩
  simp only [go_sem, seval, reduceCtorEq]
  by_cases hb : k < 14
  · have hbd : decide ((k : Int) < 14) = true := by simp; omega
    have hib : (k : Int) < 14 := by omega
    have hw : IntKind.i64.wrap ((k : Int) + 1) = ((k + 1 : Nat) : Int) := by rw [wrap_lt (by omega) (by omega)]; omega
    have hlk : k < signsL.length := hb
    have e := map_getT encT signsL k hlk
    have e' : signsA.getD k .undef = encT signsL[k] := e
    cases hz : (s == []) with
    | true =>
      try simp only [go_sem, seval, reduceCtorEq, hsg, e14, e15, hib, hw, e', encT_eq, decide_true, hz, bne]
      repeat (first | refine WK.blockSeq ?_ | refine WK.blockCond ?_ | refine WK.blockReg ?_ | (refine WK.condT ?_ ?_; (focus (simp only [go_sem, seval, reduceCtorEq, hsg, e14, e15, hib, hw, e', encT_eq, decide_true, hz, bne]; done))) | (refine WK.condF ?_ ?_; (focus (simp only [go_sem, seval, reduceCtorEq, hsg, e14, e15, hib, hw, e', encT_eq, decide_true, hz, bne]; done))) | refine WK.seq ?_ | ((first | refine WK.reg ?_ | refine WK.skip ?_ | refine WK.ret ?_ | refine WK.exit ?_); simp only [go_sem, seval, reduceCtorEq, hsg, e14, e15, hib, hw, e', encT_eq, decide_true, hz, bne]) | ((with_reducible refine And.intro ?_ ?_); omega) | omega)
      refine ⟨k + 1, ?_⟩
      simp only [hz]
      first | exact ⟨⟨by omega, fun h => by cases h⟩, by omega, rfl⟩ | (simp; omega)
    | false =>
      have hI' := hI hz
      try simp only [go_sem, seval, reduceCtorEq, hsg, e14, e15, hib, hw, e', encT_eq, decide_true, hz, bne]
      repeat (first | refine WK.blockSeq ?_ | refine WK.blockCond ?_ | refine WK.blockReg ?_ | (refine WK.condT ?_ ?_; (focus (simp only [go_sem, seval, reduceCtorEq, hsg, e14, e15, hib, hw, e', encT_eq, decide_true, hz, bne]; done))) | (refine WK.condF ?_ ?_; (focus (simp only [go_sem, seval, reduceCtorEq, hsg, e14, e15, hib, hw, e', encT_eq, decide_true, hz, bne]; done))) | refine WK.seq ?_ | ((first | refine WK.reg ?_ | refine WK.skip ?_ | refine WK.ret ?_ | refine WK.exit ?_); simp only [go_sem, seval, reduceCtorEq, hsg, e14, e15, hib, hw, e', encT_eq, decide_true, hz, bne]) | ((with_reducible refine And.intro ?_ ?_); omega) | omega)
      cases hc : (s == signsL[k]) with
      | true =>
        try simp only [go_sem, seval, reduceCtorEq, hsg, e14, e15, hib, hw, e', encT_eq, decide_true, hc]
        repeat (first | refine WK.blockSeq ?_ | refine WK.blockCond ?_ | refine WK.blockReg ?_ | (refine WK.condT ?_ ?_; (focus (simp only [go_sem, seval, reduceCtorEq, hsg, e14, e15, hib, hw, e', encT_eq, decide_true, hc]; done))) | (refine WK.condF ?_ ?_; (focus (simp only [go_sem, seval, reduceCtorEq, hsg, e14, e15, hib, hw, e', encT_eq, decide_true, hc]; done))) | refine WK.seq ?_ | ((first | refine WK.reg ?_ | refine WK.skip ?_ | refine WK.ret ?_ | refine WK.exit ?_); simp only [go_sem, seval, reduceCtorEq, hsg, e14, e15, hib, hw, e', encT_eq, decide_true, hc]) | ((with_reducible refine And.intro ?_ ?_); omega) | omega)
        have e2 : opS s = (k : Int) := by
          unfold opS
          rw [hz, if_neg Bool.false_ne_true, idxF_drop _ signsL 0 k hI', List.drop_eq_getElem_cons hlk]
          simp [idxF, hc]
        rw [e2]
      | false =>
        try simp only [go_sem, seval, reduceCtorEq, hsg, e14, e15, hib, hw, e', encT_eq, decide_true, hc]
        repeat (first | refine WK.blockSeq ?_ | refine WK.blockCond ?_ | refine WK.blockReg ?_ | (refine WK.condT ?_ ?_; (focus (simp only [go_sem, seval, reduceCtorEq, hsg, e14, e15, hib, hw, e', encT_eq, decide_true, hc]; done))) | (refine WK.condF ?_ ?_; (focus (simp only [go_sem, seval, reduceCtorEq, hsg, e14, e15, hib, hw, e', encT_eq, decide_true, hc]; done))) | refine WK.seq ?_ | ((first | refine WK.reg ?_ | refine WK.skip ?_ | refine WK.ret ?_ | refine WK.exit ?_); simp only [go_sem, seval, reduceCtorEq, hsg, e14, e15, hib, hw, e', encT_eq, decide_true, hc]) | ((with_reducible refine And.intro ?_ ?_); omega) | omega)
        exact ⟨k + 1, ⟨by omega, take_stepT hlk hI' hc⟩, by omega, rfl⟩
  · have hbd : decide ((k : Int) < 14) = false := by simp; omega
    have hk14 : k = 14 := by omega
    try simp only [go_sem, seval, reduceCtorEq, hsg, e14, e15, hbd]
    repeat (first | refine WK.blockSeq ?_ | refine WK.blockCond ?_ | refine WK.blockReg ?_ | (refine WK.condT ?_ ?_; (focus (simp only [go_sem, seval, reduceCtorEq, hsg, e14, e15, hbd]; done))) | (refine WK.condF ?_ ?_; (focus (simp only [go_sem, seval, reduceCtorEq, hsg, e14, e15, hbd]; done))) | refine WK.seq ?_ | ((first | refine WK.reg ?_ | refine WK.skip ?_ | refine WK.ret ?_ | refine WK.exit ?_); simp only [go_sem, seval, reduceCtorEq, hsg, e14, e15, hbd]) | ((with_reducible refine And.intro ?_ ?_); omega) | omega)
    unfold opS
    cases hz : (s == []) with
    | true => rfl
    | false =>
      rw [if_neg Bool.false_ne_true, idxF_drop _ signsL 0 k (hI hz), hk14]
      rfl
theorem make_ok (fl : Bool) (o : Int) (l : List Fm) : PCall (C gl) 161 [.int .i64 o, .list fl (encFs l)] (encF (.mk o 0 l)) := by
  refine pcallX (callX_of b161 (by simp [Tryd.ntmps161]) ?_) (by simp only [AllCl, cl_int, cl_list, clE_encFs, and_true]) (by simp only [cl_encF])
  refine W.of ?_
  rw [Tryd.ntmps161]
  simp only [toK, codeOf, Tryd.f161, go_sem, seval, reduceCtorEq]
  try simp only [go_sem, seval, reduceCtorEq]
  repeat (first | refine WK.blockSeq ?_ | refine WK.blockCond ?_ | refine WK.blockReg ?_ | (refine WK.condT ?_ ?_; (focus (simp only [go_sem, seval, reduceCtorEq]; done))) | (refine WK.condF ?_ ?_; (focus (simp only [go_sem, seval, reduceCtorEq]; done))) | refine WK.seq ?_ | ((first | refine WK.reg ?_ | refine WK.skip ?_ | refine WK.ret ?_ | refine WK.exit ?_); simp only [go_sem, seval, reduceCtorEq]) | ((with_reducible refine And.intro ?_ ?_); omega) | omega)
  refine ⟨AV.le_agg ⟨.refl _, .refl _, AV.le_list' _, trivial⟩, ?_⟩
  refine Cut.by' (by first | exact Nat.le_refl _ | (simp only [Sto.get_add, Sto.get_set, Sto.get_del, Sto.get_none, Sto.next_add, Sto.next_set, Sto.next_del, Sto.next_none]; omega)) (by first | exact Nat.le_refl _ | (simp only [Sto.get_add, Sto.get_set, Sto.get_del, Sto.get_none, Sto.next_add, Sto.next_set, Sto.next_del, Sto.next_none]; omega)) (fun i hi => ?_) (fun i o hi ho => ?_)
  · (try simp only [Sto.get_add, Sto.get_set, Sto.get_del, Sto.get_none, Sto.next_add, Sto.next_set, Sto.next_del, Sto.next_none] at hi ⊢); ((repeat' split) <;> first | exact .inl rfl | exact .inr rfl | omega | (simp_all; done))
  · (try simp only [Sto.get_add, Sto.get_set, Sto.get_del, Sto.get_none, Sto.next_add, Sto.next_set, Sto.next_del, Sto.next_none] at hi ho ⊢); ((repeat' split at ho) <;> (repeat' split) <;> first | (exact ⟨ho, .inl ho⟩) | (cases ho; done) | omega | (cases ho; refine ⟨rfl, .inl rfl⟩) | (cases ho; refine ⟨rfl, .inr ?_⟩; simp only [go_sem, seval, reduceCtorEq]; first | done | omega | (refine ⟨?_, ?_⟩ <;> omega)) | (simp_all; done))
def nowS (l : List Bs) : Bs := l.headD []
theorem now_ok (id : Nat) (ns : List Bs) (l : List Bs) (σ : Sto) (h : σ.get id = some (.box [.list false (ns.map encT), .list false (l.map encT)])) : CallX (C gl) 159 [.ptr id 0] σ (.str (tx (nowS l))) σ := by
  refine callX_of b159 (by simp [Tryd.ntmps159]) ?_
  refine W.of ?_
  rw [Tryd.ntmps159]
  simp only [toK, codeOf, Tryd.f159, go_sem, seval, reduceCtorEq]
  cases l with
  | nil =>
    try simp only [go_sem, seval, reduceCtorEq, h, List.length_map]
    repeat (first | refine WK.blockSeq ?_ | refine WK.blockCond ?_ | refine WK.blockReg ?_ | (refine WK.condT ?_ ?_; (focus (simp only [go_sem, seval, reduceCtorEq, h, List.length_map]; done))) | (refine WK.condF ?_ ?_; (focus (simp only [go_sem, seval, reduceCtorEq, h, List.length_map]; done))) | refine WK.seq ?_ | ((first | refine WK.reg ?_ | refine WK.skip ?_ | refine WK.ret ?_ | refine WK.exit ?_); simp only [go_sem, seval, reduceCtorEq, h, List.length_map]) | ((with_reducible refine And.intro ?_ ?_); omega) | omega)
    exact .refl _
  | cons t l =>
    have e0 : (((l.length + 1 : Nat) : Int) == 0) = false := by simp; omega
    try simp only [go_sem, seval, reduceCtorEq, h, List.length_map, e0, encT_eq]
    repeat (first | refine WK.blockSeq ?_ | refine WK.blockCond ?_ | refine WK.blockReg ?_ | (refine WK.condT ?_ ?_; (focus (simp only [go_sem, seval, reduceCtorEq, h, List.length_map, e0, encT_eq]; done))) | (refine WK.condF ?_ ?_; (focus (simp only [go_sem, seval, reduceCtorEq, h, List.length_map, e0, encT_eq]; done))) | refine WK.seq ?_ | ((first | refine WK.reg ?_ | refine WK.skip ?_ | refine WK.ret ?_ | refine WK.exit ?_); simp only [go_sem, seval, reduceCtorEq, h, List.length_map, e0, encT_eq]) | ((with_reducible refine And.intro ?_ ?_); omega) | omega)
    exact .refl _
theorem step_ok (id : Nat) (ns : List Bs) (t : Bs) (l : List Bs) (ht : (t == []) = false) (σ : Sto) (hl : id < σ.next) (h : σ.get id = some (.box [.list false (ns.map encT), .list false ((t :: l).map encT)])) : CallX (C gl) 160 [.ptr id 0] σ (.str (tx t)) (σ.set id (.box [.list false (ns.map encT), .list false (l.map encT)])) := by
  refine callX_of b160 (by simp [Tryd.ntmps160]) ?_
  refine W.of ?_
  rw [Tryd.ntmps160]
  simp only [toK, codeOf, Tryd.f160, go_sem, seval, reduceCtorEq]
  try simp only [go_sem, seval, reduceCtorEq, h, List.length_map]
  repeat (first | refine WK.blockSeq ?_ | refine WK.blockCond ?_ | refine WK.blockReg ?_ | (refine WK.condT ?_ ?_; (focus (simp only [go_sem, seval, reduceCtorEq, h, List.length_map]; done))) | (refine WK.condF ?_ ?_; (focus (simp only [go_sem, seval, reduceCtorEq, h, List.length_map]; done))) | refine WK.seq ?_ | ((first | refine WK.reg ?_ | refine WK.skip ?_ | refine WK.ret ?_ | refine WK.exit ?_); simp only [go_sem, seval, reduceCtorEq, h, List.length_map]) | ((with_reducible refine And.intro ?_ ?_); omega) | omega)
  refine callK_x0 (now_ok (gl := gl) id ns (t :: l) σ h) rfl ?_ ?_ ?_ <;> simp only [go_sem, seval, reduceCtorEq, h, List.length_map]
  have hn : nowS (t :: l) = t := rfl
  try simp only [go_sem, seval, reduceCtorEq, h, List.length_map, hn, ht]
  repeat (first | refine WK.blockSeq ?_ | refine WK.blockCond ?_ | refine WK.blockReg ?_ | (refine WK.condT ?_ ?_; (focus (simp only [go_sem, seval, reduceCtorEq, h, List.length_map, hn, ht]; done))) | (refine WK.condF ?_ ?_; (focus (simp only [go_sem, seval, reduceCtorEq, h, List.length_map, hn, ht]; done))) | refine WK.seq ?_ | ((first | refine WK.reg ?_ | refine WK.skip ?_ | refine WK.ret ?_ | refine WK.exit ?_); simp only [go_sem, seval, reduceCtorEq, h, List.length_map, hn, ht]) | ((with_reducible refine And.intro ?_ ?_); omega) | omega)
  refine ⟨fun x hx => by (rw [← List.map_cons] at hx; obtain ⟨y, _, rfl⟩ := List.mem_map.1 hx; rfl), ?_⟩
  try simp only [go_sem, seval, reduceCtorEq, h, List.length_map, hn, ht]
  repeat (first | refine WK.blockSeq ?_ | refine WK.blockCond ?_ | refine WK.blockReg ?_ | (refine WK.condT ?_ ?_; (focus (simp only [go_sem, seval, reduceCtorEq, h, List.length_map, hn, ht]; done))) | (refine WK.condF ?_ ?_; (focus (simp only [go_sem, seval, reduceCtorEq, h, List.length_map, hn, ht]; done))) | refine WK.seq ?_ | ((first | refine WK.reg ?_ | refine WK.skip ?_ | refine WK.ret ?_ | refine WK.exit ?_); simp only [go_sem, seval, reduceCtorEq, h, List.length_map, hn, ht]) | ((with_reducible refine And.intro ?_ ?_); omega) | omega)
  have hm : (l.map encT).take l.length = l.map encT := by rw [← List.length_map (f := encT), List.take_length]
  rw [hm]
  exact cut_set hl (by simp only [go_sem, seval, reduceCtorEq])
end
end Go.Sx
