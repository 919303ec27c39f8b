import Derived.Test.YtlhdjjnjhpfgoaaDoorQTkB
import Derived.Test.YtlhdjjnjhpfgoaaDoorLgAw
set_option maxRecDepth 100000
set_option linter.unusedSimpArgs false
set_option linter.unusedVariables false
set_option linter.unnecessarySimpa false
namespace Go.Sx
open Go Go.Lg Go.Proofs

/-! ## The parser -/
def signsL : List Bs := [trueT, falseT, [], [33], [38], [124], impT, iffT, [88], [70], [71], [85], [82], [87]]
def strengthL : List Int := [9, 9, 9, 6, 4, 3, 2, 1, 6, 6, 6, 5, 5, 5]
def rightL : List Bool := [false, false, false, false, false, false, true, false, false, false, false, true, true, true]
def signsA : List AV := signsL.map encT
def strengthA : List AV := strengthL.map (AV.int .i64)
def rightA : List AV := rightL.map AV.bool
def opS (s : Bs) : Int := if s == [] then -1 else idxF (fun t => s == t) signsL 0
theorem idxF_lt {A : Type} (p : A → Bool) : ∀ (l : List A) (i : Nat), -1 ≤ idxF p l i ∧ idxF p l i < ((i + l.length : Nat) : Int) ∨ idxF p l i = -1
  | [], _ => .inr rfl
  | x :: l, i => by
    unfold idxF
    split
    · left; simp only [List.length_cons]; omega
    · rcases idxF_lt p l (i + 1) with h | h
      · left; simp only [List.length_cons] at h ⊢; omega
      · exact .inr h
theorem cut_set {σ : Sto} {id : Nat} {o : AObj} (hl : id < σ.next) (hb : BelO σ.next o) : Cut σ (σ.set id o) (σ.set id o) := by
  refine Cut.by' (Nat.le_refl _) (Nat.le_refl _) (fun i hi => .inr ?_) (fun i o' hi ho => ⟨ho, ?_⟩)
  · have hi : σ.next ≤ i := hi
    rw [Sto.get_set, if_neg (by omega)]
  · rw [Sto.get_set] at ho
    split at ho
    · cases ho; exact .inr hb
    · exact .inl ho
section
variable {gl : GL}
theorem operator_ok (hsg : gl.at' 3 = signsA) (s : Bs) : PCall (C gl) 65 [.str (tx s)] (.int .i64 (opS s)) := by
  refine pcallX (callX_of b65 (by simp [Tryd.ntmps65]) ?_) (by simp only [AllCl, cl_str, and_true]) (.int _ _)
  refine W.of ?_
  rw [Tryd.ntmps65]
  simp only [toK, codeOf, Tryd.f65, go_sem, seval, reduceCtorEq]
  have hsg : (C gl).gl 3 = signsA := hsg
  have e14 : signsA.length = 14 := rfl
  have e15 : signsA.take 14 = signsA := rfl
  try simp only [go_sem, seval, reduceCtorEq, hsg, e14, e15]
  repeat (first | refine WK.blockSeq ?_ | refine WK.blockCond ?_ | refine WK.blockReg ?_ | (refine WK.condT ?_ ?_; (focus (simp only [go_sem, seval, reduceCtorEq, hsg, e14, e15]; done))) | (refine WK.condF ?_ ?_; (focus (simp only [go_sem, seval, reduceCtorEq, hsg, e14, e15]; done))) | refine WK.seq ?_ | ((first | refine WK.reg ?_ | refine WK.skip ?_ | refine WK.ret ?_ | refine WK.exit ?_); simp only [go_sem, seval, reduceCtorEq, hsg, e14, e15]) | ((with_reducible refine And.intro ?_ ?_); omega) | omega)
  refine WK.block ?_
  refine WK.loopX [0, 5] [6] (fun k : Nat => [.int .i64 k]) (fun _ => Sto.none) (fun k => k ≤ 14 ∧ ((s == []) = false → ∀ x ∈ signsL.take k, (s == x) = false)) (fun k => 14 - k) 0 (by decide) ⟨by decide, fun _ x hx => by simp at hx⟩ (by simp only [go_sem, seval, reduceCtorEq]) rfl ?_
  rintro k ⟨hk, hI⟩
  simp only [go_sem, seval, reduceCtorEq]
  by_cases hb : k < 14
  · have hbd : decide ((k : Int) < 14) = true := by simp; omega
    have hib : (k : Int) < 14 := by omega
    have hw : IntKind.i64.wrap ((k : Int) + 1) = ((k + 1 : Nat) : Int) := by rw [wrap_lt (by omega) (by omega)]; omega
    have hlk : k < signsL.length := hb
    have e := map_getT encT signsL k hlk
    have e' : signsA.getD k .undef = encT signsL[k] := e
    cases hz : (s == []) with
    | true =>
      try simp only [go_sem, seval, reduceCtorEq, hsg, e14, e15, hib, hw, e', encT_eq, decide_true, hz, bne]
      repeat (first | refine WK.blockSeq ?_ | refine WK.blockCond ?_ | refine WK.blockReg ?_ | (refine WK.condT ?_ ?_; (focus (simp only [go_sem, seval, reduceCtorEq, hsg, e14, e15, hib, hw, e', encT_eq, decide_true, hz, bne]; done))) | (refine WK.condF ?_ ?_; (focus (simp only [go_sem, seval, reduceCtorEq, hsg, e14, e15, hib, hw, e', encT_eq, decide_true, hz, bne]; done))) | refine WK.seq ?_ | ((first | refine WK.reg ?_ | refine WK.skip ?_ | refine WK.ret ?_ | refine WK.exit ?_); simp only [go_sem, seval, reduceCtorEq, hsg, e14, e15, hib, hw, e', encT_eq, decide_true, hz, bne]) | ((with_reducible refine And.intro ?_ ?_); omega) | omega)
      refine ⟨k + 1, ?_⟩
      simp only [hz]
      first | exact ⟨⟨by omega, fun h => by cases h⟩, by omega, rfl⟩ | (simp; omega)
    | false =>
      have hI' := hI hz
      try simp only [go_sem, seval, reduceCtorEq, hsg, e14, e15, hib, hw, e', encT_eq, decide_true, hz, bne]
      repeat (first | refine WK.blockSeq ?_ | refine WK.blockCond ?_ | refine WK.blockReg ?_ | (refine WK.condT ?_ ?_; (focus (simp only [go_sem, seval, reduceCtorEq, hsg, e14, e15, hib, hw, e', encT_eq, decide_true, hz, bne]; done))) | (refine WK.condF ?_ ?_; (focus (simp only [go_sem, seval, reduceCtorEq, hsg, e14, e15, hib, hw, e', encT_eq, decide_true, hz, bne]; done))) | refine WK.seq ?_ | ((first | refine WK.reg ?_ | refine WK.skip ?_ | refine WK.ret ?_ | refine WK.exit ?_); simp only [go_sem, seval, reduceCtorEq, hsg, e14, e15, hib, hw, e', encT_eq, decide_true, hz, bne]) | ((with_reducible refine And.intro ?_ ?_); omega) | omega)
      cases hc : (s == signsL[k]) with
      | true =>
        try simp only [go_sem, seval, reduceCtorEq, hsg, e14, e15, hib, hw, e', encT_eq, decide_true, hc]
        repeat (first | refine WK.blockSeq ?_ | refine WK.blockCond ?_ | refine WK.blockReg ?_ | (refine WK.condT ?_ ?_; (focus (simp only [go_sem, seval, reduceCtorEq, hsg, e14, e15, hib, hw, e', encT_eq, decide_true, hc]; done))) | (refine WK.condF ?_ ?_; (focus (simp only [go_sem, seval, reduceCtorEq, hsg, e14, e15, hib, hw, e', encT_eq, decide_true, hc]; done))) | refine WK.seq ?_ | ((first | refine WK.reg ?_ | refine WK.skip ?_ | refine WK.ret ?_ | refine WK.exit ?_); simp only [go_sem, seval, reduceCtorEq, hsg, e14, e15, hib, hw, e', encT_eq, decide_true, hc]) | ((with_reducible refine And.intro ?_ ?_); omega) | omega)
        have e2 : opS s = (k : Int) := by
          unfold opS
          rw [hz, if_neg Bool.false_ne_true, idxF_drop _ signsL 0 k hI', List.drop_eq_getElem_cons hlk]
          simp [idxF, hc]
        rw [e2]
      | false =>
        try simp only [go_sem, seval, reduceCtorEq, hsg, e14, e15, hib, hw, e', encT_eq, decide_true, hc]
        repeat (first | refine WK.blockSeq ?_ | refine WK.blockCond ?_ | refine WK.blockReg ?_ | (refine WK.condT ?_ ?_; (focus (simp only [go_sem, seval, reduceCtorEq, hsg, e14, e15, hib, hw, e', encT_eq, decide_true, hc]; done))) | (refine WK.condF ?_ ?_; (focus (simp only [go_sem, seval, reduceCtorEq, hsg, e14, e15, hib, hw, e', encT_eq, decide_true, hc]; done))) | refine WK.seq ?_ | ((first | refine WK.reg ?_ | refine WK.skip ?_ | refine WK.ret ?_ | refine WK.exit ?_); simp only [go_sem, seval, reduceCtorEq, hsg, e14, e15, hib, hw, e', encT_eq, decide_true, hc]) | ((with_reducible refine And.intro ?_ ?_); omega) | omega)
        exact ⟨k + 1, ⟨by omega, take_stepT hlk hI' hc⟩, by omega, rfl⟩
  · have hbd : decide ((k : Int) < 14) = false := by simp; omega
    have hk14 : k = 14 := by omega
    try simp only [go_sem, seval, reduceCtorEq, hsg, e14, e15, hbd]
    repeat (first | refine WK.blockSeq ?_ | refine WK.blockCond ?_ | refine WK.blockReg ?_ | (refine WK.condT ?_ ?_; (focus (simp only [go_sem, seval, reduceCtorEq, hsg, e14, e15, hbd]; done))) | (refine WK.condF ?_ ?_; (focus (simp only [go_sem, seval, reduceCtorEq, hsg, e14, e15, hbd]; done))) | refine WK.seq ?_ | ((first | refine WK.reg ?_ | refine WK.skip ?_ | refine WK.ret ?_ | refine WK.exit ?_); simp only [go_sem, seval, reduceCtorEq, hsg, e14, e15, hbd]) | ((with_reducible refine And.intro ?_ ?_); omega) | omega)
    unfold opS
    cases hz : (s == []) with
    | true => rfl
    | false =>
      rw [if_neg Bool.false_ne_true, idxF_drop _ signsL 0 k (hI hz), hk14]
      rfl
theorem make_ok (fl : Bool) (o : Int) (l : List Fm) : PCall (C gl) 23 [.int .i64 o, .list fl (encFs l)] (encF (.mk o 0 l)) := by
  refine pcallX (callX_of b23 (by simp [Tryd.ntmps23]) ?_) (by simp only [AllCl, cl_int, cl_list, clE_encFs, and_true]) (by simp only [cl_encF])
  refine W.of ?_
  rw [Tryd.ntmps23]
  simp only [toK, codeOf, Tryd.f23, go_sem, seval, reduceCtorEq]
  try simp only [go_sem, seval, reduceCtorEq]
  repeat (first | refine WK.blockSeq ?_ | refine WK.blockCond ?_ | refine WK.blockReg ?_ | (refine WK.condT ?_ ?_; (focus (simp only [go_sem, seval, reduceCtorEq]; done))) | (refine WK.condF ?_ ?_; (focus (simp only [go_sem, seval, reduceCtorEq]; done))) | refine WK.seq ?_ | ((first | refine WK.reg ?_ | refine WK.skip ?_ | refine WK.ret ?_ | refine WK.exit ?_); simp only [go_sem, seval, reduceCtorEq]) | ((with_reducible refine And.intro ?_ ?_); omega) | omega)
  refine ⟨AV.le_agg ⟨.refl _, .refl _, AV.le_list' _, trivial⟩, ?_⟩
  refine Cut.by' (by first | exact Nat.le_refl _ | (simp only [Sto.get_add, Sto.get_set, Sto.get_del, Sto.get_none, Sto.next_add, Sto.next_set, Sto.next_del, Sto.next_none]; omega)) (by first | exact Nat.le_refl _ | (simp only [Sto.get_add, Sto.get_set, Sto.get_del, Sto.get_none, Sto.next_add, Sto.next_set, Sto.next_del, Sto.next_none]; omega)) (fun i hi => ?_) (fun i o hi ho => ?_)
  · (try simp only [Sto.get_add, Sto.get_set, Sto.get_del, Sto.get_none, Sto.next_add, Sto.next_set, Sto.next_del, Sto.next_none] at hi ⊢); ((repeat' split) <;> first | exact .inl rfl | exact .inr rfl | omega | (simp_all; done))
  · (try simp only [Sto.get_add, Sto.get_set, Sto.get_del, Sto.get_none, Sto.next_add, Sto.next_set, Sto.next_del, Sto.next_none] at hi ho ⊢); ((repeat' split at ho) <;> (repeat' split) <;> first | (exact ⟨ho, .inl ho⟩) | (cases ho; done) | omega | (cases ho; refine ⟨rfl, .inl rfl⟩) | (cases ho; refine ⟨rfl, .inr ?_⟩; simp only [go_sem, seval, reduceCtorEq]; first | done | omega | (refine ⟨?_, ?_⟩ <;> omega)) | (simp_all; done))
def nowS (l : List Bs) : Bs := l.headD []
theorem now_ok (id : Nat) (ns : List Bs) (l : List Bs) (σ : Sto) (h : σ.get id = some (.box [.list false (ns.map encT), .list false (l.map encT)])) : CallX (C gl) 66 [.ptr id 0] σ (.str (tx (nowS l))) σ := by
  refine callX_of b66 (by simp [Tryd.ntmps66]) ?_
  refine W.of ?_
  rw [Tryd.ntmps66]
  simp only [toK, codeOf, Tryd.f66, go_sem, seval, reduceCtorEq]
  cases l with
  | nil =>
    try simp only [go_sem, seval, reduceCtorEq, h, List.length_map]
    repeat (first | refine WK.blockSeq ?_ | refine WK.blockCond ?_ | refine WK.blockReg ?_ | (refine WK.condT ?_ ?_; (focus (simp only [go_sem, seval, reduceCtorEq, h, List.length_map]; done))) | (refine WK.condF ?_ ?_; (focus (simp only [go_sem, seval, reduceCtorEq, h, List.length_map]; done))) | refine WK.seq ?_ | ((first | refine WK.reg ?_ | refine WK.skip ?_ | refine WK.ret ?_ | refine WK.exit ?_); simp only [go_sem, seval, reduceCtorEq, h, List.length_map]) | ((with_reducible refine And.intro ?_ ?_); omega) | omega)
    exact .refl _
  | cons t l =>
    have e0 : (((l.length + 1 : Nat) : Int) == 0) = false := by simp; omega
    try simp only [go_sem, seval, reduceCtorEq, h, List.length_map, e0, encT_eq]
    repeat (first | refine WK.blockSeq ?_ | refine WK.blockCond ?_ | refine WK.blockReg ?_ | (refine WK.condT ?_ ?_; (focus (simp only [go_sem, seval, reduceCtorEq, h, List.length_map, e0, encT_eq]; done))) | (refine WK.condF ?_ ?_; (focus (simp only [go_sem, seval, reduceCtorEq, h, List.length_map, e0, encT_eq]; done))) | refine WK.seq ?_ | ((first | refine WK.reg ?_ | refine WK.skip ?_ | refine WK.ret ?_ | refine WK.exit ?_); simp only [go_sem, seval, reduceCtorEq, h, List.length_map, e0, encT_eq]) | ((with_reducible refine And.intro ?_ ?_); omega) | omega)
    exact .refl _
theorem step_ok (id : Nat) (ns : List Bs) (t : Bs) (l : List Bs) (ht : (t == []) = false) (σ : Sto) (hl : id < σ.next) (h : σ.get id = some (.box [.list false (ns.map encT), .list false ((t :: l).map encT)])) : CallX (C gl) 67 [.ptr id 0] σ (.str (tx t)) (σ.set id (.box [.list false (ns.map encT), .list false (l.map encT)])) := by
  refine callX_of b67 (by simp [Tryd.ntmps67]) ?_
  refine W.of ?_
  rw [Tryd.ntmps67]
  simp only [toK, codeOf, Tryd.f67, go_sem, seval, reduceCtorEq]
  try simp only [go_sem, seval, reduceCtorEq, h, List.length_map]
  repeat (first | refine WK.blockSeq ?_ | refine WK.blockCond ?_ | refine WK.blockReg ?_ | (refine WK.condT ?_ ?_; (focus (simp only [go_sem, seval, reduceCtorEq, h, List.length_map]; done))) | (refine WK.condF ?_ ?_; (focus (simp only [go_sem, seval, reduceCtorEq, h, List.length_map]; done))) | refine WK.seq ?_ | ((first | refine WK.reg ?_ | refine WK.skip ?_ | refine WK.ret ?_ | refine WK.exit ?_); simp only [go_sem, seval, reduceCtorEq, h, List.length_map]) | ((with_reducible refine And.intro ?_ ?_); omega) | omega)
  refine callK_x0 (now_ok (gl := gl) id ns (t :: l) σ h) rfl ?_ ?_ ?_ <;> simp only [go_sem, seval, reduceCtorEq, h, List.length_map]
  have hn : nowS (t :: l) = t := rfl
  try simp only [go_sem, seval, reduceCtorEq, h, List.length_map, hn, ht]
  repeat (first | refine WK.blockSeq ?_ | refine WK.blockCond ?_ | refine WK.blockReg ?_ | (refine WK.condT ?_ ?_; (focus (simp only [go_sem, seval, reduceCtorEq, h, List.length_map, hn, ht]; done))) | (refine WK.condF ?_ ?_; (focus (simp only [go_sem, seval, reduceCtorEq, h, List.length_map, hn, ht]; done))) | refine WK.seq ?_ | ((first | refine WK.reg ?_ | refine WK.skip ?_ | refine WK.ret ?_ | refine WK.exit ?_); simp only [go_sem, seval, reduceCtorEq, h, List.length_map, hn, ht]) | ((with_reducible refine And.intro ?_ ?_); omega) | omega)
  refine ⟨fun x hx => by (rw [← List.map_cons] at hx; obtain ⟨y, _, rfl⟩ := List.mem_map.1 hx; rfl), ?_⟩
  try simp only [go_sem, seval, reduceCtorEq, h, List.length_map, hn, ht]
  repeat (first | refine WK.blockSeq ?_ | refine WK.blockCond ?_ | refine WK.blockReg ?_ | (refine WK.condT ?_ ?_; (focus (simp only [go_sem, seval, reduceCtorEq, h, List.length_map, hn, ht]; done))) | (refine WK.condF ?_ ?_; (focus (simp only [go_sem, seval, reduceCtorEq, h, List.length_map, hn, ht]; done))) | refine WK.seq ?_ | ((first | refine WK.reg ?_ | refine WK.skip ?_ | refine WK.ret ?_ | refine WK.exit ?_); simp only [go_sem, seval, reduceCtorEq, h, List.length_map, hn, ht]) | ((with_reducible refine And.intro ?_ ?_); omega) | omega)
  have hm : (l.map encT).take l.length = l.map encT := by rw [← List.length_map (f := encT), List.take_length]
  rw [hm]
  exact cut_set hl (by simp only [go_sem, seval, reduceCtorEq])
end
end Go.Sx

set_option maxRecDepth 100000
set_option linter.unusedSimpArgs false
set_option linter.unusedVariables false
set_option linter.unnecessarySimpa false
namespace Go.Sx
open Go Go.Lg Go.Proofs

theorem b64 {gl : GL} : Body (C gl).P 64 Tryd.f64 (codeOf Tryd.f64) := ⟨Tryd.func64, by kernel_rfl, by kernel_rfl⟩
theorem b52 {gl : GL} : Body (C gl).P 52 Tryd.f52 (codeOf Tryd.f52) := ⟨Tryd.func52, by kernel_rfl, by kernel_rfl⟩
/-! ## What the parser reads -/
inductive Md where
  | pre
  | bin (least : Int)
  | loop (least : Int) (f : Fm)
def opPre (t : Bs) : Bool := t == [33] || (t == [88] || (t == [70] || t == [71]))
def nxt (op : Int) : Int := if rightL.getD op.toNat false then strengthL.getD op.toNat 0 else strengthL.getD op.toNat 0 + 1
def stops (least op : Int) : Bool := decide (op < 0) || (!(arityL.getD op.toNat 0 == 2) || decide (strengthL.getD op.toNat 0 < least))
def parF (ns : List Bs) : Nat → Md → List Bs → Option (Fm × List Bs)
  | 0, _, _ => none
  | n + 1, .pre, l =>
    match l with
    | [] => none
    | t :: r =>
      if t == [] then none
      else if t == [40] then
        match parF ns n (.bin 1) r with
        | some (f, u :: l') => if u == [41] then some (f, l') else none
        | _ => none
      else if t == trueT then some (.mk 0 0 [], r)
      else if t == falseT then some (.mk 1 0 [], r)
      else if opPre t then
        match parF ns n .pre r with
        | some (f, l') => some (.mk (opS t) 0 [f], l')
        | none => none
      else if idxT t ns < 0 then none else some (.mk 2 (idxT t ns) [], r)
  | n + 1, .bin least, l =>
    match parF ns n .pre l with
    | some (f, l') => parF ns n (.loop least f) l'
    | none => none
  | n + 1, .loop least f, l =>
    if stops least (opS (nowS l)) then some (f, l)
    else match parF ns n (.bin (nxt (opS (nowS l)))) (l.drop 1) with
      | some (g, l') => parF ns n (.loop least (.mk (opS (nowS l)) 0 [f, g])) l'
      | none => none
def pbox (ns l : List Bs) : AObj := .box [.list false (ns.map encT), .list false (l.map encT)]
theorem getD_map' {A : Type} (f : A → AV) : ∀ (L : List A) (d : A) {i : Nat}, i < L.length → (L.map f).getD i .undef = f (L.getD i d)
  | x :: l, d, 0, h => rfl
  | x :: l, d, i + 1, h => by simpa using getD_map' f l d (i := i) (by simpa using h)
theorem opS_nat {s : Bs} (h : ¬ opS s < 0) : ∃ o : Nat, opS s = (o : Int) ∧ o < 14 := by
  unfold opS at h ⊢
  cases hz : (s == []) with
  | true => rw [hz] at h; exact absurd (show (-1 : Int) < 0 by decide) h
  | false =>
    rw [hz] at h
    simp only [Bool.false_eq_true, if_false] at h ⊢
    rcases idxF_lt (fun t => s == t) signsL 0 with hh | hh
    · have : signsL.length = 14 := rfl
      rw [this] at hh
      exact ⟨(idxF (fun t => s == t) signsL 0).toNat, by omega, by omega⟩
    · rw [hh] at h; exact absurd h (by decide)
theorem strength_le : ∀ o : Nat, o < 14 → 0 ≤ strengthL.getD o 0 ∧ strengthL.getD o 0 ≤ 9 := by decide
section
variable {gl : GL}
/-- The parser's two functions at fuel n. -/
def PreOK (gl : GL) (n : Nat) : Prop := ∀ (id : Nat) (ns l l' : List Bs) (f : Fm) (σ : Sto), parF ns n .pre l = some (f, l') → ns.length < 1000000 → id < σ.next → σ.get id = some (pbox ns l) →
  CallX (C gl) 64 [.ptr id 0] σ (encF f) (σ.set id (pbox ns l'))
def BinOK (gl : GL) (n : Nat) : Prop := ∀ (id : Nat) (ns l l' : List Bs) (least : Int) (f : Fm) (σ : Sto), parF ns n (.bin least) l = some (f, l') → ns.length < 1000000 → id < σ.next → σ.get id = some (pbox ns l) →
  CallX (C gl) 52 [.ptr id 0, .int .i64 least] σ (encF f) (σ.set id (pbox ns l'))
theorem prefix_ok (hsg : gl.at' 3 = signsA) {n : Nat} (hp : PreOK gl n) (hbn : BinOK gl n) : PreOK gl (n + 1) := by
  intro id ns l l' f σ h hns hl hg
  cases l with
  | nil => simp [parF] at h
  | cons t r =>
  refine callX_of b64 (by simp [Tryd.ntmps64]) ?_
  refine W.of ?_
  rw [Tryd.ntmps64]
  simp only [toK, codeOf, Tryd.f64, go_sem, seval, reduceCtorEq]
  rw [show ([116, 114, 117, 101] : Bs) = trueT from rfl, show ([102, 97, 108, 115, 101] : Bs) = falseT from rfl]
  have nz_id : (id = σ.next) = False := by simp; omega
  have nx_id : ∀ j, (id = σ.next + j) = False := fun j => by simp; omega
  have H := And.intro @nz_id (And.intro @nx_id @hg)
  refine goB ?_
  first | exact trivial | clear H
  cases h0 : (t == []) with
  | true => simp [parF, h0] at h
  | false =>
  refine callK_x0 (step_ok (gl := gl) id ns t r h0 _ ltsA (by simp only [go_sem, seval, reduceCtorEq, nz_id, nx_id, hg, pbox]; first | done | omega)) rfl ?_ ?_ ?_ <;> simp only [go_sem, seval, reduceCtorEq, nz_id, nx_id, hg, pbox]
  have H := And.intro @nz_id (And.intro @nx_id @hg)
  refine goB ?_
  first | exact trivial | clear H
  cases h1 : (t == [40]) with
  | true =>
    cases e : parF ns n (.bin 1) r with
    | none => simp only [parF, h0, h1, e, Bool.false_eq_true, if_false, if_true] at h; cases h
    | some p =>
    obtain ⟨f1, l1⟩ := p
    cases l1 with
    | nil => simp only [parF, h0, h1, e, Bool.false_eq_true, if_false, if_true] at h; cases h
    | cons u l2 =>
    cases hu : (u == [41]) with
    | false => simp only [parF, h0, h1, e, hu, Bool.false_eq_true, if_false, if_true] at h; cases h
    | true =>
    have hh : some (f1, l2) = some (f, l') := by simpa only [parF, h0, h1, e, hu, Bool.false_eq_true, if_false, if_true] using h
    cases hh
    have hun : (u == []) = false := by rw [eq_of_beq hu]; rfl
    have H := And.intro @nz_id (And.intro @nx_id @hg)
    refine goB ?_
    first | exact trivial | clear H
    refine callK_x0 (hbn id ns r (u :: l') 1 f _ e hns ltsA (by simp only [go_sem, seval, reduceCtorEq, nz_id, nx_id, hg, pbox]; first | done | omega)) rfl ?_ ?_ ?_ <;> simp only [go_sem, seval, reduceCtorEq, nz_id, nx_id, hg, pbox, encF_eq]
    have H := And.intro @nz_id (And.intro @nx_id @hg)
    refine goB ?_
    first | exact trivial | clear H
    refine callK_x0 (step_ok (gl := gl) id ns u l' hun _ ltsA (by simp only [go_sem, seval, reduceCtorEq, nz_id, nx_id, hg, pbox]; first | done | omega)) rfl ?_ ?_ ?_ <;> simp only [go_sem, seval, reduceCtorEq, nz_id, nx_id, hg, pbox]
    have H := And.intro @nz_id (And.intro @nx_id (And.intro @hg @hu))
    refine goB ?_
    first | exact trivial | clear H
    have H := And.intro @nz_id (And.intro @nx_id @hg)
    exact cutA
  | false =>
  cases h2 : (t == trueT) with
  | true =>
    have hh : some (Fm.mk 0 0 [], r) = some (f, l') := by simpa only [parF, h0, h1, h2, Bool.false_eq_true, if_false, if_true] using h
    cases hh
    have H := And.intro @nz_id (And.intro @nx_id (And.intro @hg @h2))
    refine goB ?_
    first | exact trivial | clear H
    refine callK_pureL (make_ok (gl := gl) true 0 []) rfl ?_ ?_ ?_ <;> simp only [go_sem, seval, reduceCtorEq, nz_id, nx_id, hg, pbox, encF_eq, encFs]
    have H := And.intro @nz_id (And.intro @nx_id @hg)
    refine goB ?_
    first | exact trivial | clear H
    have H := And.intro @nz_id (And.intro @nx_id @hg)
    exact cutA
  | false =>
  cases h3 : (t == falseT) with
  | true =>
    have hh : some (Fm.mk 1 0 [], r) = some (f, l') := by simpa only [parF, h0, h1, h2, h3, Bool.false_eq_true, if_false, if_true] using h
    cases hh
    have H := And.intro @nz_id (And.intro @nx_id (And.intro @hg (And.intro @h2 @h3)))
    refine goB ?_
    first | exact trivial | clear H
    refine callK_pureL (make_ok (gl := gl) true 1 []) rfl ?_ ?_ ?_ <;> simp only [go_sem, seval, reduceCtorEq, nz_id, nx_id, hg, pbox, encF_eq, encFs]
    have H := And.intro @nz_id (And.intro @nx_id @hg)
    refine goB ?_
    first | exact trivial | clear H
    have H := And.intro @nz_id (And.intro @nx_id @hg)
    exact cutA
  | false =>
  cases h4 : opPre t with
  | true =>
    cases e : parF ns n .pre r with
    | none => simp only [parF, h0, h1, h2, h3, h4, e, Bool.false_eq_true, if_false, if_true] at h; cases h
    | some p =>
    obtain ⟨f1, l1⟩ := p
    have hh : some (Fm.mk (opS t) 0 [f1], l1) = some (f, l') := by simpa only [parF, h0, h1, h2, h3, h4, e, Bool.false_eq_true, if_false, if_true] using h
    cases hh
    cases k1 : (t == [33]) with
    | true =>
      have H := And.intro @nz_id (And.intro @nx_id (And.intro @hg (And.intro @h2 (And.intro @h3 @k1))))
      refine goB ?_
      first | exact trivial | clear H
      refine callK_pureL (operator_ok hsg t) rfl ?_ ?_ ?_ <;> simp only [go_sem, seval, reduceCtorEq, nz_id, nx_id, hg, pbox]
      have H := And.intro @nz_id (And.intro @nx_id @hg)
      refine goB ?_
      first | exact trivial | clear H
      refine callK_x0 (hp id ns r l' f1 _ e hns ltsA (by simp only [go_sem, seval, reduceCtorEq, nz_id, nx_id, hg, pbox]; first | done | omega)) rfl ?_ ?_ ?_ <;> simp only [go_sem, seval, reduceCtorEq, nz_id, nx_id, hg, pbox, encF_eq]
      have H := And.intro @nz_id (And.intro @nx_id @hg)
      refine goB ?_
      first | exact trivial | clear H
      refine callK_pureL (make_ok (gl := gl) true (opS t) [f1]) rfl ?_ ?_ ?_ <;> simp only [go_sem, seval, reduceCtorEq, nz_id, nx_id, hg, pbox, encF_eq, encFs]
      have H := And.intro @nz_id (And.intro @nx_id @hg)
      refine goB ?_
      first | exact trivial | clear H
      have H := And.intro @nz_id (And.intro @nx_id @hg)
      exact cutA
    | false =>
    cases k2 : (t == [88]) with
    | true =>
      have H := And.intro @nz_id (And.intro @nx_id (And.intro @hg (And.intro @h2 (And.intro @h3 (And.intro @k1 @k2)))))
      refine goB ?_
      first | exact trivial | clear H
      refine callK_pureL (operator_ok hsg t) rfl ?_ ?_ ?_ <;> simp only [go_sem, seval, reduceCtorEq, nz_id, nx_id, hg, pbox]
      have H := And.intro @nz_id (And.intro @nx_id @hg)
      refine goB ?_
      first | exact trivial | clear H
      refine callK_x0 (hp id ns r l' f1 _ e hns ltsA (by simp only [go_sem, seval, reduceCtorEq, nz_id, nx_id, hg, pbox]; first | done | omega)) rfl ?_ ?_ ?_ <;> simp only [go_sem, seval, reduceCtorEq, nz_id, nx_id, hg, pbox, encF_eq]
      have H := And.intro @nz_id (And.intro @nx_id @hg)
      refine goB ?_
      first | exact trivial | clear H
      refine callK_pureL (make_ok (gl := gl) true (opS t) [f1]) rfl ?_ ?_ ?_ <;> simp only [go_sem, seval, reduceCtorEq, nz_id, nx_id, hg, pbox, encF_eq, encFs]
      have H := And.intro @nz_id (And.intro @nx_id @hg)
      refine goB ?_
      first | exact trivial | clear H
      have H := And.intro @nz_id (And.intro @nx_id @hg)
      exact cutA
    | false =>
    cases k3 : (t == [70]) with
    | true =>
      have H := And.intro @nz_id (And.intro @nx_id (And.intro @hg (And.intro @h2 (And.intro @h3 (And.intro @k1 (And.intro @k2 @k3))))))
      refine goB ?_
      first | exact trivial | clear H
      refine callK_pureL (operator_ok hsg t) rfl ?_ ?_ ?_ <;> simp only [go_sem, seval, reduceCtorEq, nz_id, nx_id, hg, pbox]
      have H := And.intro @nz_id (And.intro @nx_id @hg)
      refine goB ?_
      first | exact trivial | clear H
      refine callK_x0 (hp id ns r l' f1 _ e hns ltsA (by simp only [go_sem, seval, reduceCtorEq, nz_id, nx_id, hg, pbox]; first | done | omega)) rfl ?_ ?_ ?_ <;> simp only [go_sem, seval, reduceCtorEq, nz_id, nx_id, hg, pbox, encF_eq]
      have H := And.intro @nz_id (And.intro @nx_id @hg)
      refine goB ?_
      first | exact trivial | clear H
      refine callK_pureL (make_ok (gl := gl) true (opS t) [f1]) rfl ?_ ?_ ?_ <;> simp only [go_sem, seval, reduceCtorEq, nz_id, nx_id, hg, pbox, encF_eq, encFs]
      have H := And.intro @nz_id (And.intro @nx_id @hg)
      refine goB ?_
      first | exact trivial | clear H
      have H := And.intro @nz_id (And.intro @nx_id @hg)
      exact cutA
    | false =>
    cases k4 : (t == [71]) with
    | true =>
      have H := And.intro @nz_id (And.intro @nx_id (And.intro @hg (And.intro @h2 (And.intro @h3 (And.intro @k1 (And.intro @k2 (And.intro @k3 @k4)))))))
      refine goB ?_
      first | exact trivial | clear H
      refine callK_pureL (operator_ok hsg t) rfl ?_ ?_ ?_ <;> simp only [go_sem, seval, reduceCtorEq, nz_id, nx_id, hg, pbox]
      have H := And.intro @nz_id (And.intro @nx_id @hg)
      refine goB ?_
      first | exact trivial | clear H
      refine callK_x0 (hp id ns r l' f1 _ e hns ltsA (by simp only [go_sem, seval, reduceCtorEq, nz_id, nx_id, hg, pbox]; first | done | omega)) rfl ?_ ?_ ?_ <;> simp only [go_sem, seval, reduceCtorEq, nz_id, nx_id, hg, pbox, encF_eq]
      have H := And.intro @nz_id (And.intro @nx_id @hg)
      refine goB ?_
      first | exact trivial | clear H
      refine callK_pureL (make_ok (gl := gl) true (opS t) [f1]) rfl ?_ ?_ ?_ <;> simp only [go_sem, seval, reduceCtorEq, nz_id, nx_id, hg, pbox, encF_eq, encFs]
      have H := And.intro @nz_id (And.intro @nx_id @hg)
      refine goB ?_
      first | exact trivial | clear H
      have H := And.intro @nz_id (And.intro @nx_id @hg)
      exact cutA
    | false =>
    unfold opPre at h4; rw [k1, k2, k3, k4] at h4; cases h4
  | false =>
    cases e : decide (idxT t ns < 0) with
    | true => have e := of_decide_eq_true e; simp only [parF, h0, h1, h2, h3, h4, e, Bool.false_eq_true, if_false, if_true] at h; cases h
    | false =>
    have e' := of_decide_eq_false e
    have hh : some (Fm.mk 2 (idxT t ns) [], r) = some (f, l') := by simpa only [parF, h0, h1, h2, h3, h4, e', Bool.false_eq_true, if_false, if_true] using h
    cases hh
    have k4 : (t == [33]) = false ∧ (t == [88]) = false ∧ (t == [70]) = false ∧ (t == [71]) = false := by
      unfold opPre at h4
      simp only [Bool.or_eq_false_iff] at h4
      exact h4
    obtain ⟨k1, k2, k3, k4⟩ := k4
    have H := And.intro @nz_id (And.intro @nx_id (And.intro @hg (And.intro @h2 (And.intro @h3 (And.intro @k1 (And.intro @k2 (And.intro @k3 @k4)))))))
    refine goB ?_
    first | exact trivial | clear H
    refine callK_pureL (indexT_ok (gl := gl) ns t (by omega)) rfl ?_ ?_ ?_ <;> simp only [go_sem, seval, reduceCtorEq, nz_id, nx_id, hg, pbox]
    have H := And.intro @nz_id (And.intro @nx_id (And.intro @hg @e))
    refine goB ?_
    first | exact trivial | clear H
    refine ⟨AV.le_agg ⟨.refl _, .refl _, AV.le_list' _, trivial⟩, ?_⟩
    have H := And.intro @nz_id (And.intro @nx_id @hg)
    exact cutA
theorem binary_ok (hsg : gl.at' 3 = signsA) (har : gl.at' 0 = arityA) (hst : gl.at' 1 = strengthA) (hri : gl.at' 2 = rightA) {n : Nat}
    (hp : PreOK gl n) (hbn : ∀ m, m ≤ n → BinOK gl m) : BinOK gl (n + 1) := by
  intro id ns l l' least f σ h hns hl hg
  cases e : parF ns n .pre l with
  | none => simp only [parF, e] at h; cases h
  | some p =>
  obtain ⟨f1, l1⟩ := p
  have hlp : parF ns n (.loop least f1) l1 = some (f, l') := by simpa only [parF, e] using h
  have hsg' : (C gl).gl 3 = signsA := hsg
  have har' : (C gl).gl 0 = arityA := har
  have hst' : (C gl).gl 1 = strengthA := hst
  have hri' : (C gl).gl 2 = rightA := hri
  refine callX_of b52 (by simp [Tryd.ntmps52]) ?_
  refine W.of ?_
  rw [Tryd.ntmps52]
  simp only [toK, codeOf, Tryd.f52, go_sem, seval, reduceCtorEq]
  have nz_id : (id = σ.next) = False := by simp; omega
  have nx_id : ∀ j, (id = σ.next + j) = False := fun j => by simp; omega
  have H := And.intro @nz_id (And.intro @nx_id @hg)
  refine goB ?_
  first | exact trivial | clear H
  refine callK_x0 (hp id ns l l1 f1 _ e hns ltsA (by simp only [go_sem, seval, reduceCtorEq, nz_id, nx_id, hg, pbox]; first | done | omega)) rfl ?_ ?_ ?_ <;> simp only [go_sem, seval, reduceCtorEq, nz_id, nx_id, hg, pbox, encF_eq]
  have H := And.intro @nz_id (And.intro @nx_id @hg)
  refine goB ?_
  first | exact trivial | clear H
  refine WK.block ?_
  refine WK.loopX [0, 1, 4, 5] [] (fun _ : Nat × Fm × List Bs => []) (fun s => ((σ.set id (pbox ns s.2.2)).add (.box [.int .i64 0, .int .i64 0, .list true []])).add (.box [.int .i64 s.2.1.op, .int .i64 s.2.1.var, .list false (encFs s.2.1.args)])) (fun s => s.1 ≤ n ∧ parF ns s.1 (.loop least s.2.1) s.2.2 = some (f, l')) (fun s => s.1) (n, f1, l1) (by decide) ⟨Nat.le_refl _, hlp⟩ (by simp only [go_sem, seval, reduceCtorEq]) (by rfl) ?_
  rintro ⟨m, g, k⟩ ⟨hm, hI⟩
  simp only at hm hI
  cases m with
  | zero => simp only [parF] at hI; cases hI
  | succ m =>
  simp only [go_sem, seval, reduceCtorEq]
  have H := And.intro @nz_id (And.intro @nx_id @hg)
  refine goB ?_
  first | exact trivial | clear H
  refine callK_x0 (now_ok (gl := gl) id ns k _ (by simp only [go_sem, seval, reduceCtorEq, nz_id, nx_id, hg, pbox]; first | done | omega)) rfl ?_ ?_ ?_ <;> simp only [go_sem, seval, reduceCtorEq, nz_id, nx_id, hg, pbox]
  have H := And.intro @nz_id (And.intro @nx_id @hg)
  refine goB ?_
  first | exact trivial | clear H
  refine callK_pureL (operator_ok hsg (nowS k)) rfl ?_ ?_ ?_ <;> simp only [go_sem, seval, reduceCtorEq, nz_id, nx_id, hg, pbox]
  have H := And.intro @nz_id (And.intro @nx_id @hg)
  refine goB ?_
  first | exact trivial | clear H
  cases q1 : decide (opS (nowS k) < 0) with
  | true =>
    have hs : stops least (opS (nowS k)) = true := by unfold stops; rw [q1]; rfl
    have hh : some (g, k) = some (f, l') := by simpa only [parF, hs, if_true] using hI
    cases hh
    have H := And.intro @nz_id (And.intro @nx_id (And.intro @hg @q1))
    refine goB ?_
    first | exact trivial | clear H
    have H := And.intro @nz_id (And.intro @nx_id @hg)
    exact cutA
  | false =>
  obtain ⟨o, ho, ho14⟩ : ∃ o : Nat, opS (nowS k) = (o : Int) ∧ o < 14 := opS_nat (of_decide_eq_false q1)
  rw [ho] at q1
  have g1 := getD_map' (AV.int .i64) arityL 0 (i := o) ho14
  have g2 := getD_map' (AV.int .i64) strengthL 0 (i := o) ho14
  have g3 := getD_map' AV.bool rightL false (i := o) ho14
  have g1 : arityA.getD o .undef = _ := g1
  have g2 : strengthA.getD o .undef = _ := g2
  have g3 : rightA.getD o .undef = _ := g3
  have n1 : arityA.length = 14 := rfl
  have n2 : strengthA.length = 14 := rfl
  have n3 : rightA.length = 14 := rfl
  cases q2 : (arityL.getD o 0 == 2) with
  | false =>
    have hs : stops least (opS (nowS k)) = true := by unfold stops; rw [ho, Int.toNat_natCast, q2]; simp
    have hh : some (g, k) = some (f, l') := by simpa only [parF, hs, if_true] using hI
    cases hh
    have H := And.intro @nz_id (And.intro @nx_id (And.intro @hg (And.intro @ho (And.intro @har' (And.intro @hst' (And.intro @hri' (And.intro @g1 (And.intro @g2 (And.intro @g3 (And.intro @n1 (And.intro @n2 (And.intro @n3 (And.intro @q1 @q2)))))))))))))
    refine goB ?_
    first | exact trivial | clear H
    have H := And.intro @nz_id (And.intro @nx_id (And.intro @hg (And.intro @ho (And.intro @har' (And.intro @hst' (And.intro @hri' (And.intro @g1 (And.intro @g2 (And.intro @g3 (And.intro @n1 (And.intro @n2 @n3)))))))))))
    exact cutA
  | true =>
  cases q3 : decide (strengthL.getD o 0 < least) with
  | true =>
    have hs : stops least (opS (nowS k)) = true := by unfold stops; rw [ho, Int.toNat_natCast, q3]; simp
    have hh : some (g, k) = some (f, l') := by simpa only [parF, hs, if_true] using hI
    cases hh
    have H := And.intro @nz_id (And.intro @nx_id (And.intro @hg (And.intro @ho (And.intro @har' (And.intro @hst' (And.intro @hri' (And.intro @g1 (And.intro @g2 (And.intro @g3 (And.intro @n1 (And.intro @n2 (And.intro @n3 (And.intro @q1 (And.intro @q2 @q3))))))))))))))
    refine goB ?_
    first | exact trivial | clear H
    have H := And.intro @nz_id (And.intro @nx_id (And.intro @hg (And.intro @ho (And.intro @har' (And.intro @hst' (And.intro @hri' (And.intro @g1 (And.intro @g2 (And.intro @g3 (And.intro @n1 (And.intro @n2 @n3)))))))))))
    exact cutA
  | false =>
  have hs : stops least (opS (nowS k)) = false := by unfold stops; rw [ho, Int.toNat_natCast, q1, q2, q3]; rfl
  cases k with
  | nil => exact absurd ho (by show (-1 : Int) ≠ o; omega)
  | cons t k =>
  have ht : (t == []) = false := by
    cases hz : (t == []) with
    | false => rfl
    | true =>
      have : opS (nowS (t :: k)) = -1 := by show (if t == [] then (-1 : Int) else _) = _; rw [hz]; rfl
      omega
  cases e2 : parF ns m (.bin (nxt (opS (nowS (t :: k))))) k with
  | none => simp only [parF, hs, Bool.false_eq_true, if_false, List.drop_succ_cons, List.drop_zero, e2] at hI; cases hI
  | some p =>
  obtain ⟨gg, l2⟩ := p
  have hI2 : parF ns m (.loop least (.mk (opS (nowS (t :: k))) 0 [g, gg])) l2 = some (f, l') := by simpa only [parF, hs, Bool.false_eq_true, if_false, List.drop_succ_cons, List.drop_zero, e2] using hI
  rw [ho] at e2 hI2
  have sb := strength_le o ho14
  have w1 : IntKind.i64.wrap (strengthL.getD o 0 + 1) = strengthL.getD o 0 + 1 := wrap_lt (by omega) (by omega)
  have w2 : IntKind.i64.wrap (strengthL.getD o 0 + 1 - 1) = strengthL.getD o 0 := by rw [wrap_lt (by omega) (by omega)]; omega
  have H := And.intro @nz_id (And.intro @nx_id (And.intro @hg (And.intro @ho (And.intro @har' (And.intro @hst' (And.intro @hri' (And.intro @g1 (And.intro @g2 (And.intro @g3 (And.intro @n1 (And.intro @n2 (And.intro @n3 (And.intro @q1 (And.intro @q2 @q3))))))))))))))
  refine goB ?_
  first | exact trivial | clear H
  refine callK_x0 (step_ok (gl := gl) id ns t k ht _ ltsA (by simp only [go_sem, seval, reduceCtorEq, nz_id, nx_id, hg, pbox, ho, har', hst', hri', g1, g2, g3, bne, n1, n2, n3]; first | done | omega)) rfl ?_ ?_ ?_ <;> simp only [go_sem, seval, reduceCtorEq, nz_id, nx_id, hg, pbox, ho, har', hst', hri', g1, g2, g3, bne, n1, n2, n3]
  have H := And.intro @nz_id (And.intro @nx_id (And.intro @hg (And.intro @ho (And.intro @har' (And.intro @hst' (And.intro @hri' (And.intro @g1 (And.intro @g2 (And.intro @g3 (And.intro @n1 (And.intro @n2 (And.intro @n3 @w1))))))))))))
  refine goB ?_
  first | exact trivial | clear H
  cases q4 : rightL.getD o false with
  | true =>
    have e4 : nxt (o : Int) = strengthL.getD o 0 := by unfold nxt; rw [Int.toNat_natCast, q4]; rfl
    rw [e4] at e2
    have H := And.intro @nz_id (And.intro @nx_id (And.intro @hg (And.intro @ho (And.intro @har' (And.intro @hst' (And.intro @hri' (And.intro @g1 (And.intro @g2 (And.intro @g3 (And.intro @n1 (And.intro @n2 (And.intro @n3 (And.intro @w1 (And.intro @w2 @q4))))))))))))))
    refine goB ?_
    first | exact trivial | clear H
    refine callK_x0 (hbn m (by omega) id ns k l2 (strengthL.getD o 0) gg _ e2 hns ltsA (by simp only [go_sem, seval, reduceCtorEq, nz_id, nx_id, hg, pbox, ho, har', hst', hri', g1, g2, g3, bne, n1, n2, n3]; first | done | omega)) rfl ?_ ?_ ?_ <;> simp only [go_sem, seval, reduceCtorEq, nz_id, nx_id, hg, pbox, ho, har', hst', hri', g1, g2, g3, bne, n1, n2, n3, encF_eq]
    have H := And.intro @nz_id (And.intro @nx_id (And.intro @hg (And.intro @ho (And.intro @har' (And.intro @hst' (And.intro @hri' (And.intro @g1 (And.intro @g2 (And.intro @g3 (And.intro @n1 (And.intro @n2 @n3)))))))))))
    refine goB ?_
    first | exact trivial | clear H
    refine callK_pureL (make_ok (gl := gl) true o [g, gg]) rfl ?_ ?_ ?_ <;> simp only [go_sem, seval, reduceCtorEq, nz_id, nx_id, hg, pbox, ho, har', hst', hri', g1, g2, g3, bne, n1, n2, n3, encF_eq, encFs]
    have H := And.intro @nz_id (And.intro @nx_id (And.intro @hg (And.intro @ho (And.intro @har' (And.intro @hst' (And.intro @hri' (And.intro @g1 (And.intro @g2 (And.intro @g3 (And.intro @n1 (And.intro @n2 @n3)))))))))))
    refine goB ?_
    first | exact trivial | clear H
    refine ⟨(m, .mk o 0 [g, gg], l2), ⟨by simp only; omega, hI2⟩, Nat.lt_succ_self m, ?_⟩
    simp only [pbox, fm_op, fm_var, fm_args, encFs, encF_eq] at hg ⊢
    have H := And.intro @nz_id (And.intro @nx_id (And.intro @hg (And.intro @ho (And.intro @har' (And.intro @hst' (And.intro @hri' (And.intro @g1 (And.intro @g2 (And.intro @g3 (And.intro @n1 (And.intro @n2 @n3)))))))))))
    exact cutA
  | false =>
    have e4 : nxt (o : Int) = strengthL.getD o 0 + 1 := by unfold nxt; rw [Int.toNat_natCast, q4]; rfl
    rw [e4] at e2
    have H := And.intro @nz_id (And.intro @nx_id (And.intro @hg (And.intro @ho (And.intro @har' (And.intro @hst' (And.intro @hri' (And.intro @g1 (And.intro @g2 (And.intro @g3 (And.intro @n1 (And.intro @n2 (And.intro @n3 (And.intro @w1 (And.intro @w2 @q4))))))))))))))
    refine goB ?_
    first | exact trivial | clear H
    refine callK_x0 (hbn m (by omega) id ns k l2 (strengthL.getD o 0 + 1) gg _ e2 hns ltsA (by simp only [go_sem, seval, reduceCtorEq, nz_id, nx_id, hg, pbox, ho, har', hst', hri', g1, g2, g3, bne, n1, n2, n3]; first | done | omega)) rfl ?_ ?_ ?_ <;> simp only [go_sem, seval, reduceCtorEq, nz_id, nx_id, hg, pbox, ho, har', hst', hri', g1, g2, g3, bne, n1, n2, n3, encF_eq]
    have H := And.intro @nz_id (And.intro @nx_id (And.intro @hg (And.intro @ho (And.intro @har' (And.intro @hst' (And.intro @hri' (And.intro @g1 (And.intro @g2 (And.intro @g3 (And.intro @n1 (And.intro @n2 @n3)))))))))))
    refine goB ?_
    first | exact trivial | clear H
    refine callK_pureL (make_ok (gl := gl) true o [g, gg]) rfl ?_ ?_ ?_ <;> simp only [go_sem, seval, reduceCtorEq, nz_id, nx_id, hg, pbox, ho, har', hst', hri', g1, g2, g3, bne, n1, n2, n3, encF_eq, encFs]
    have H := And.intro @nz_id (And.intro @nx_id (And.intro @hg (And.intro @ho (And.intro @har' (And.intro @hst' (And.intro @hri' (And.intro @g1 (And.intro @g2 (And.intro @g3 (And.intro @n1 (And.intro @n2 @n3)))))))))))
    refine goB ?_
    first | exact trivial | clear H
    refine ⟨(m, .mk o 0 [g, gg], l2), ⟨by simp only; omega, hI2⟩, Nat.lt_succ_self m, ?_⟩
    simp only [pbox, fm_op, fm_var, fm_args, encFs, encF_eq] at hg ⊢
    have H := And.intro @nz_id (And.intro @nx_id (And.intro @hg (And.intro @ho (And.intro @har' (And.intro @hst' (And.intro @hri' (And.intro @g1 (And.intro @g2 (And.intro @g3 (And.intro @n1 (And.intro @n2 @n3)))))))))))
    exact cutA
theorem parse_all (hsg : gl.at' 3 = signsA) (har : gl.at' 0 = arityA) (hst : gl.at' 1 = strengthA) (hri : gl.at' 2 = rightA) : ∀ n, PreOK gl n ∧ ∀ m, m ≤ n → BinOK gl m
  | 0 => by
    refine ⟨fun id ns l l' f σ h => by (simp only [parF] at h; cases h), fun m hm => ?_⟩
    have hm0 : m = 0 := by omega
    subst hm0
    intro id ns l l' least f σ h
    simp only [parF] at h
    cases h
  | n + 1 => by
    obtain ⟨h1, h2⟩ := parse_all hsg har hst hri n
    refine ⟨prefix_ok hsg h1 (h2 n (Nat.le_refl _)), fun m hm => ?_⟩
    by_cases e : m = n + 1
    · subst e; exact binary_ok hsg har hst hri h1 h2
    · exact h2 m (by omega)
end
end Go.Sx

set_option maxRecDepth 100000
set_option linter.unusedSimpArgs false
set_option linter.unusedVariables false
set_option linter.unnecessarySimpa false
namespace Go.Sx
open Go Go.Lg Go.Proofs

theorem b50 {gl : GL} : Body (C gl).P 50 Tryd.f50 (codeOf Tryd.f50) := ⟨Tryd.func50, by kernel_rfl, by kernel_rfl⟩
theorem b36 {gl : GL} : Body (C gl).P 36 Tryd.f36 (codeOf Tryd.f36) := ⟨Tryd.func36, by kernel_rfl, by kernel_rfl⟩
theorem b53 {gl : GL} : Body (C gl).P 53 Tryd.f53 (codeOf Tryd.f53) := ⟨Tryd.func53, by kernel_rfl, by kernel_rfl⟩
theorem parF_shrt (ns : List Bs) : ∀ (n : Nat) (md : Md) (l l' : List Bs) (f : Fm), parF ns n md l = some (f, l') → (∀ least g, md = .loop least g → Shrt g) → Shrt f
  | 0, _, _, _, _, h, _ => by simp only [parF] at h; cases h
  | n + 1, .pre, l, l', f, h, _ => by
    cases l with
    | nil => simp only [parF] at h; cases h
    | cons t r =>
    simp only [parF] at h
    split at h
    · cases h
    split at h
    · split at h
      · rename_i g u k e
        split at h
        · cases h
          exact parF_shrt ns n _ _ _ _ e (fun _ _ h => by cases h)
        · cases h
      · cases h
    split at h
    · cases h; simp [Shrt, ShrtL]
    split at h
    · cases h; simp [Shrt, ShrtL]
    split at h
    · split at h
      · rename_i g k e
        cases h
        have := parF_shrt ns n _ _ _ _ e (fun _ _ h => by cases h)
        simp [Shrt, ShrtL, this]
      · cases h
    split at h
    · cases h
    · cases h; simp [Shrt, ShrtL]
  | n + 1, .bin least, l, l', f, h, _ => by
    simp only [parF] at h
    split at h
    · rename_i g k e
      have := parF_shrt ns n _ _ _ _ e (fun _ _ h => by cases h)
      exact parF_shrt ns n _ _ _ _ h (fun _ _ h => by cases h; exact this)
    · cases h
  | n + 1, .loop least f0, l, l', f, h, hf => by
    have h0 := hf _ _ rfl
    simp only [parF] at h
    split at h
    · cases h; exact h0
    split at h
    · rename_i g k e
      have := parF_shrt ns n _ _ _ _ e (fun _ _ h => by cases h)
      exact parF_shrt ns n _ _ _ _ h (fun _ _ h => by cases h; simp [Shrt, ShrtL, this, h0])
    · cases h
/-- The answer, if the parser does not stumble. -/
def parA (f : Fm) (l : List Bs) : Fm × Int := if l.length > 0 then (.mk 0 0 [], 4) else if validF f 6 then (f, 0) else (.mk 0 0 [], 3)
section
variable {gl : GL}
theorem if20 : isIfT (C gl) 20 = true := by kernel_rfl
attribute [go_sem] if20
theorem valid6_ok (har : gl.at' 0 = arityA) (f : Fm) (hs : Shrt f) : PCall (C gl) 53 [encF f] (.bool (validF f 6)) := by
  refine pcallX (callX_of b53 (by simp [Tryd.ntmps53]) ?_) (by simp only [AllCl, cl_encF, and_true]) (.bool _)
  refine W.of ?_
  rw [Tryd.ntmps53]
  simp only [toK, codeOf, Tryd.f53, go_sem, seval, reduceCtorEq]
  try simp only [go_sem, seval, reduceCtorEq, encF_eq]
  repeat (first | refine WK.blockSeq ?_ | refine WK.blockCond ?_ | refine WK.blockReg ?_ | (refine WK.condT ?_ ?_; (focus (simp only [go_sem, seval, reduceCtorEq, encF_eq]; done))) | (refine WK.condF ?_ ?_; (focus (simp only [go_sem, seval, reduceCtorEq, encF_eq]; done))) | refine WK.seq ?_ | ((first | refine WK.reg ?_ | refine WK.skip ?_ | refine WK.ret ?_ | refine WK.exit ?_); simp only [go_sem, seval, reduceCtorEq, encF_eq]) | ((with_reducible refine And.intro ?_ ?_); omega) | omega)
  refine callK_pureL (valid_ok har f hs 6) rfl ?_ ?_ ?_ <;> simp only [go_sem, seval, reduceCtorEq, encF_eq]
  try simp only [go_sem, seval, reduceCtorEq]
  repeat (first | refine WK.blockSeq ?_ | refine WK.blockCond ?_ | refine WK.blockReg ?_ | (refine WK.condT ?_ ?_; (focus (simp only [go_sem, seval, reduceCtorEq]; done))) | (refine WK.condF ?_ ?_; (focus (simp only [go_sem, seval, reduceCtorEq]; done))) | refine WK.seq ?_ | ((first | refine WK.reg ?_ | refine WK.skip ?_ | refine WK.ret ?_ | refine WK.exit ?_); simp only [go_sem, seval, reduceCtorEq]) | ((with_reducible refine And.intro ?_ ?_); omega) | omega)
  exact cut_none _
theorem parse1_ret (σ : Sto) : CallDD (C gl) 50 [.ptr 0 0, .ptr 1 0] .returning σ σ := by
  refine callDD_of b50 (by simp [Tryd.ntmps50]) rfl rfl rfl rfl (.inl ⟨rfl, rfl, rfl⟩) ?_
  rw [Tryd.ntmps50]
  simp only [toK, go_sem, seval, reduceCtorEq]
  refine NK.block (NK.seq (NK.reg ?_))
  simp only [go_sem, seval, reduceCtorEq, inBlk_normal, andN_normal]
  refine NK.cond true (by simp only [go_sem, seval, reduceCtorEq]) (fun _ => NK.reg ?_) (fun h => by cases h)
  simp only [go_sem, seval, reduceCtorEq]
theorem tQ0_n {C : Cx} {nt : Nat} {y : Code} {Q0 : Exit → Env → Sto → Prop} {Q1 : FuncId → List AV → Exit → Env → Sto → Prop} {env : Env} {σ : Sto} : tQ0 C nt y Q0 Q1 .normal env σ = T0 C nt y Q0 Q1 env σ := (rfl)
theorem tQ0_r {C : Cx} {nt : Nat} {y : Code} {Q0 : Exit → Env → Sto → Prop} {Q1 : FuncId → List AV → Exit → Env → Sto → Prop} {env : Env} {σ : Sto} : tQ0 C nt y Q0 Q1 .ret env σ = Q0 .ret env σ := (rfl)
theorem tQ1_n {C : Cx} {nt : Nat} {y : Code} {Q1 : FuncId → List AV → Exit → Env → Sto → Prop} {g : FuncId} {caps : List AV} {env : Env} {σ : Sto} : tQ1 C nt y Q1 g caps .normal env σ = W C none nt y (Q1 g caps) env σ := (rfl)
attribute [go_sem] tQ0_n tQ0_r tQ1_n
theorem parse_ok (hsg : gl.at' 3 = signsA) (har : gl.at' 0 = arityA) (hst : gl.at' 1 = strengthA) (hri : gl.at' 2 = rightA)
    (ns : List Bs) (text : Bs) (n : Nat) (f : Fm) (l : List Bs) (hns : ns.length < 1000000) (hnl : ∀ s ∈ ns, s.length < 1000000000) (hn : namedS ns = 0) (hl : text.length ≤ 16384) (hp : parF ns n (.bin 1) (toksS text) = some (f, l)) :
    PCall (C gl) 36 [.list false (ns.map encT), .str (tx text)] (.tup [encF (parA f l).1, .int .i64 (parA f l).2]) := by
  refine pcallX (callX_T b36 (by simp [Tryd.ntmps36]) ?_) (by simp only [AllCl, cl_str, cl_list, and_true]; exact of_eq_true (clE_T _)) (by simp only [cl_tup, AllCl, cl_encF, cl_int, and_true])
  simp only [Tryd.f36, codeOf]
  have hb0 : decide ((text.length : Int) > 16384) = false := by simp; omega
  refine T0.seq (T0.ofW (W.of ?_))
  simp only [toK, go_sem, seval, reduceCtorEq]
  try simp only [go_sem, seval, reduceCtorEq, hb0, List.length_map]
  repeat (first | refine WK.blockSeq ?_ | refine WK.blockCond ?_ | refine WK.blockReg ?_ | (refine WK.condT ?_ ?_; (focus (simp only [go_sem, seval, reduceCtorEq, hb0, List.length_map]; done))) | (refine WK.condF ?_ ?_; (focus (simp only [go_sem, seval, reduceCtorEq, hb0, List.length_map]; done))) | refine WK.seq ?_ | ((first | refine WK.reg ?_ | refine WK.skip ?_ | refine WK.ret ?_ | refine WK.exit ?_); simp only [go_sem, seval, reduceCtorEq, hb0, List.length_map]) | ((with_reducible refine And.intro ?_ ?_); omega) | omega)
  refine T0.seq (T0.ofW (W.of ?_))
  simp only [toK, go_sem, seval, reduceCtorEq]
  try simp only [go_sem, seval, reduceCtorEq, hb0, List.length_map]
  repeat (first | refine WK.blockSeq ?_ | refine WK.blockCond ?_ | refine WK.blockReg ?_ | (refine WK.condT ?_ ?_; (focus (simp only [go_sem, seval, reduceCtorEq, hb0, List.length_map]; done))) | (refine WK.condF ?_ ?_; (focus (simp only [go_sem, seval, reduceCtorEq, hb0, List.length_map]; done))) | refine WK.seq ?_ | ((first | refine WK.reg ?_ | refine WK.skip ?_ | refine WK.ret ?_ | refine WK.exit ?_); simp only [go_sem, seval, reduceCtorEq, hb0, List.length_map]) | ((with_reducible refine And.intro ?_ ?_); omega) | omega)
  refine callK_pureL (named_ok (gl := gl) ns (by omega) hnl) rfl ?_ ?_ ?_ <;> simp only [go_sem, seval, reduceCtorEq, hb0, List.length_map]
  try simp only [go_sem, seval, reduceCtorEq, hb0, List.length_map, hn, bne]
  repeat (first | refine WK.blockSeq ?_ | refine WK.blockCond ?_ | refine WK.blockReg ?_ | (refine WK.condT ?_ ?_; (focus (simp only [go_sem, seval, reduceCtorEq, hb0, List.length_map, hn, bne]; done))) | (refine WK.condF ?_ ?_; (focus (simp only [go_sem, seval, reduceCtorEq, hb0, List.length_map, hn, bne]; done))) | refine WK.seq ?_ | ((first | refine WK.reg ?_ | refine WK.skip ?_ | refine WK.ret ?_ | refine WK.exit ?_); simp only [go_sem, seval, reduceCtorEq, hb0, List.length_map, hn, bne]) | ((with_reducible refine And.intro ?_ ?_); omega) | omega)
  refine T0.seq (T0.ofW (W.of ?_))
  simp only [toK, go_sem, seval, reduceCtorEq]
  try simp only [go_sem, seval, reduceCtorEq, hb0, List.length_map]
  repeat (first | refine WK.blockSeq ?_ | refine WK.blockCond ?_ | refine WK.blockReg ?_ | (refine WK.condT ?_ ?_; (focus (simp only [go_sem, seval, reduceCtorEq, hb0, List.length_map]; done))) | (refine WK.condF ?_ ?_; (focus (simp only [go_sem, seval, reduceCtorEq, hb0, List.length_map]; done))) | refine WK.seq ?_ | ((first | refine WK.reg ?_ | refine WK.skip ?_ | refine WK.ret ?_ | refine WK.exit ?_); simp only [go_sem, seval, reduceCtorEq, hb0, List.length_map]) | ((with_reducible refine And.intro ?_ ?_); omega) | omega)
  refine T0.seq (T0.defer 1 rfl ?_)
  simp only [toK, go_sem, seval, reduceCtorEq]
  refine ⟨_, _, _, _, rfl, rfl, ?_⟩
  simp only [go_sem, seval, reduceCtorEq]
  refine W.of ?_
  simp only [toK, go_sem, seval, reduceCtorEq]
  try simp only [go_sem, seval, reduceCtorEq, hb0, List.length_map]
  repeat (first | refine WK.blockSeq ?_ | refine WK.blockCond ?_ | refine WK.blockReg ?_ | (refine WK.condT ?_ ?_; (focus (simp only [go_sem, seval, reduceCtorEq, hb0, List.length_map]; done))) | (refine WK.condF ?_ ?_; (focus (simp only [go_sem, seval, reduceCtorEq, hb0, List.length_map]; done))) | refine WK.seq ?_ | ((first | refine WK.reg ?_ | refine WK.skip ?_ | refine WK.ret ?_ | refine WK.exit ?_); simp only [go_sem, seval, reduceCtorEq, hb0, List.length_map]) | ((with_reducible refine And.intro ?_ ?_); omega) | omega)
  refine callK_pureL (tokens_ok (gl := gl) text (by omega)) rfl ?_ ?_ ?_ <;> simp only [go_sem, seval, reduceCtorEq, hb0, List.length_map]
  try simp only [go_sem, seval, reduceCtorEq, hb0, List.length_map]
  repeat (first | refine WK.blockSeq ?_ | refine WK.blockCond ?_ | refine WK.blockReg ?_ | (refine WK.condT ?_ ?_; (focus (simp only [go_sem, seval, reduceCtorEq, hb0, List.length_map]; done))) | (refine WK.condF ?_ ?_; (focus (simp only [go_sem, seval, reduceCtorEq, hb0, List.length_map]; done))) | refine WK.seq ?_ | ((first | refine WK.reg ?_ | refine WK.skip ?_ | refine WK.ret ?_ | refine WK.exit ?_); simp only [go_sem, seval, reduceCtorEq, hb0, List.length_map]) | ((with_reducible refine And.intro ?_ ?_); omega) | omega)
  have hbin := (parse_all hsg har hst hri n).2 n (Nat.le_refl _)
  refine callK_x0 (hbin 2 ns (toksS text) l 1 f _ hp hns (by exact Nat.lt_succ_self 2) (by simp only [go_sem, seval, reduceCtorEq, hb0, List.length_map, pbox]; first | done | omega)) rfl ?_ ?_ ?_ <;> simp only [go_sem, seval, reduceCtorEq, hb0, List.length_map, pbox, encF_eq]
  try simp only [go_sem, seval, reduceCtorEq, hb0, List.length_map, pbox]
  repeat (first | refine WK.blockSeq ?_ | refine WK.blockCond ?_ | refine WK.blockReg ?_ | (refine WK.condT ?_ ?_; (focus (simp only [go_sem, seval, reduceCtorEq, hb0, List.length_map, pbox]; done))) | (refine WK.condF ?_ ?_; (focus (simp only [go_sem, seval, reduceCtorEq, hb0, List.length_map, pbox]; done))) | refine WK.seq ?_ | ((first | refine WK.reg ?_ | refine WK.skip ?_ | refine WK.ret ?_ | refine WK.exit ?_); simp only [go_sem, seval, reduceCtorEq, hb0, List.length_map, pbox]) | ((with_reducible refine And.intro ?_ ?_); omega) | omega)
  cases q1 : decide ((l.length : Int) > 0) with
  | true =>
    have hA : parA f l = (.mk 0 0 [], 4) := by unfold parA; rw [if_pos (by have := of_decide_eq_true q1; omega)]
    rw [hA]
    try simp only [go_sem, seval, reduceCtorEq, hb0, List.length_map, pbox, q1]
    repeat (first | refine WK.blockSeq ?_ | refine WK.blockCond ?_ | refine WK.blockReg ?_ | (refine WK.condT ?_ ?_; (focus (simp only [go_sem, seval, reduceCtorEq, hb0, List.length_map, pbox, q1]; done))) | (refine WK.condF ?_ ?_; (focus (simp only [go_sem, seval, reduceCtorEq, hb0, List.length_map, pbox, q1]; done))) | refine WK.seq ?_ | ((first | refine WK.reg ?_ | refine WK.skip ?_ | refine WK.ret ?_ | refine WK.exit ?_); simp only [go_sem, seval, reduceCtorEq, hb0, List.length_map, pbox, q1]) | ((with_reducible refine And.intro ?_ ?_); omega) | omega)
    refine ⟨.inr (.inl rfl), _, parse1_ret _, ?_⟩
    simp only [go_sem, seval, reduceCtorEq, hb0, List.length_map, pbox]
    exact ⟨AV.le_tup ⟨AV.le_agg ⟨.refl _, .refl _, AV.le_list' _, trivial⟩, .refl _, trivial⟩, cut_none _⟩
  | false =>
  have q1' : ¬ l.length > 0 := by have := of_decide_eq_false q1; omega
  try simp only [go_sem, seval, reduceCtorEq, hb0, List.length_map, pbox, q1]
  repeat (first | refine WK.blockSeq ?_ | refine WK.blockCond ?_ | refine WK.blockReg ?_ | (refine WK.condT ?_ ?_; (focus (simp only [go_sem, seval, reduceCtorEq, hb0, List.length_map, pbox, q1]; done))) | (refine WK.condF ?_ ?_; (focus (simp only [go_sem, seval, reduceCtorEq, hb0, List.length_map, pbox, q1]; done))) | refine WK.seq ?_ | ((first | refine WK.reg ?_ | refine WK.skip ?_ | refine WK.ret ?_ | refine WK.exit ?_); simp only [go_sem, seval, reduceCtorEq, hb0, List.length_map, pbox, q1]) | ((with_reducible refine And.intro ?_ ?_); omega) | omega)
  refine callK_pureL (valid6_ok har f (parF_shrt ns n _ _ _ _ hp (fun _ _ h => by cases h))) rfl ?_ ?_ ?_ <;> simp only [go_sem, seval, reduceCtorEq, hb0, List.length_map, pbox, encF_eq]
  cases q2 : validF f 6 with
  | false =>
    have hA : parA f l = (.mk 0 0 [], 3) := by unfold parA; rw [if_neg q1', q2]; rfl
    rw [hA]
    try simp only [go_sem, seval, reduceCtorEq, hb0, List.length_map, pbox, q2]
    repeat (first | refine WK.blockSeq ?_ | refine WK.blockCond ?_ | refine WK.blockReg ?_ | (refine WK.condT ?_ ?_; (focus (simp only [go_sem, seval, reduceCtorEq, hb0, List.length_map, pbox, q2]; done))) | (refine WK.condF ?_ ?_; (focus (simp only [go_sem, seval, reduceCtorEq, hb0, List.length_map, pbox, q2]; done))) | refine WK.seq ?_ | ((first | refine WK.reg ?_ | refine WK.skip ?_ | refine WK.ret ?_ | refine WK.exit ?_); simp only [go_sem, seval, reduceCtorEq, hb0, List.length_map, pbox, q2]) | ((with_reducible refine And.intro ?_ ?_); omega) | omega)
    refine ⟨.inr (.inl rfl), _, parse1_ret _, ?_⟩
    simp only [go_sem, seval, reduceCtorEq, hb0, List.length_map, pbox]
    exact ⟨AV.le_tup ⟨AV.le_agg ⟨.refl _, .refl _, AV.le_list' _, trivial⟩, .refl _, trivial⟩, cut_none _⟩
  | true =>
    have hA : parA f l = (f, 0) := by unfold parA; rw [if_neg q1', q2]; rfl
    rw [hA]
    try simp only [go_sem, seval, reduceCtorEq, hb0, List.length_map, pbox, q2]
    repeat (first | refine WK.blockSeq ?_ | refine WK.blockCond ?_ | refine WK.blockReg ?_ | (refine WK.condT ?_ ?_; (focus (simp only [go_sem, seval, reduceCtorEq, hb0, List.length_map, pbox, q2]; done))) | (refine WK.condF ?_ ?_; (focus (simp only [go_sem, seval, reduceCtorEq, hb0, List.length_map, pbox, q2]; done))) | refine WK.seq ?_ | ((first | refine WK.reg ?_ | refine WK.skip ?_ | refine WK.ret ?_ | refine WK.exit ?_); simp only [go_sem, seval, reduceCtorEq, hb0, List.length_map, pbox, q2]) | ((with_reducible refine And.intro ?_ ?_); omega) | omega)
    refine WK.ret ?_
    refine ⟨.inr (.inl rfl), _, parse1_ret _, ?_⟩
    simp only [go_sem, seval, reduceCtorEq, hb0, List.length_map, pbox]
    trace_state
    exact cut_none _
end
end Go.Sx
