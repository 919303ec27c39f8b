import Derived.Test.YtndchmmclfidgaaDoorRfF
import Derived.Test.YtndchmmclfidgaaDoorGxO
import Derived.Test.YtndchmmclfidgaaDoorLgAw
set_option maxRecDepth 100000
set_option maxHeartbeats 4000000
set_option linter.unusedSimpArgs false
set_option linter.unusedVariables false
set_option linter.unnecessarySimpa false
namespace Go.Sx
open Go Go.Lg Go.Proofs
theorem b23 {gl : GL} : Body (C gl).P 23 Tryd.f23 (codeOf Tryd.f23) := ⟨Tryd.func23, by kernel_rfl, by kernel_rfl⟩
structure Mc where
  inn : Int
  out : Int
  ans : List (List Int)
  nxt : List (List Int)
def intL (l : List Int) : AV := .list false (l.map fun x => .int .i64 x)
def mcCells (m : Mc) : List AV := [.int .i64 m.inn, .int .i64 m.out, .list false (m.ans.map intL), .list false (m.nxt.map intL)]
def encM (m : Mc) : AV := .agg (mcCells m)
theorem encM_eq (m : Mc) : encM m = .agg [.int .i64 m.inn, .int .i64 m.out, .list false (m.ans.map intL), .list false (m.nxt.map intL)] := (rfl)
theorem clE_ints (l : List Int) : ClE (l.map fun x => AV.int .i64 x) := clE_map (fun _ => .int _ _) _
theorem cl_intL (l : List Int) : Closed (intL l) := by unfold intL; rw [cl_list]; exact clE_ints l
theorem cl_encM (m : Mc) : Closed (encM m) := by
  have h : ∀ l : List (List Int), Closed (.list false (l.map intL)) := fun l => by
    rw [cl_list]
    intro x hx c hc
    obtain ⟨a, _, rfl⟩ := List.mem_map.1 hx
    simp only [intL, AV.cells, List.mem_singleton] at hc
    subst hc; exact cl_intL a
  refine .agg _ fun c hc => ?_
  simp only [mcCells, List.mem_cons, List.not_mem_nil, or_false] at hc
  rcases hc with rfl | rfl | rfl | rfl
  · exact .int _ _
  · exact .int _ _
  · exact h _
  · exact h _
def at2 (l : List (List Int)) (s i : Nat) : Int := (l.getD s []).getD i 0
theorem rows_len (l : List (List Int)) : (l.map intL).length = l.length := List.length_map _
theorem row_len (l : List Int) : (l.map fun x => AV.int .i64 x).length = l.length := List.length_map _
theorem rows_get (l : List (List Int)) (s : Nat) (h : s < l.length) : (l.map intL).getD s .undef = .list false ((l.getD s []).map fun x => .int .i64 x) := by
  rw [List.getD_eq_getElem?_getD, List.getElem?_map, List.getElem?_eq_getElem h, List.getD_eq_getElem?_getD, List.getElem?_eq_getElem h]; rfl
theorem row_get (l : List Int) (i : Nat) (h : i < l.length) : (l.map fun x => AV.int .i64 x).getD i .undef = .int .i64 (l.getD i 0) := by
  rw [List.getD_eq_getElem?_getD, List.getElem?_map, List.getElem?_eq_getElem h, List.getD_eq_getElem?_getD, List.getElem?_eq_getElem h]; rfl
structure CellOK (m : Mc) (b s i : Nat) : Prop where
  a0 : 0 ≤ at2 m.ans s i
  a1 : at2 m.ans s i < (2 ^ b : Nat)
  n0 : 0 ≤ at2 m.nxt s i
  n1 : at2 m.nxt s i < (m.ans.length : Int)
structure RowOK (m : Mc) (a b s : Nat) : Prop where
  al : (m.ans.getD s []).length = 2 ^ a
  nl : (m.nxt.getD s []).length = 2 ^ a
  cells : ∀ i < 2 ^ a, CellOK m b s i
structure FitP (m : Mc) (a b : Nat) : Prop where
  inn : m.inn = a
  out : m.out = b
  pos : 1 ≤ m.ans.length
  le : m.ans.length ≤ 2000
  nl : m.nxt.length = m.ans.length
  rows : ∀ s < m.ans.length, RowOK m a b s
noncomputable def fitB (m : Mc) (a b : Nat) : Bool := @decide (FitP m a b) (Classical.propDecidable _)
theorem fit_no {m : Mc} {a b : Nat} (h : ¬ FitP m a b) : fitB m a b = false := by unfold fitB; simp [h]
theorem fit_yes {m : Mc} {a b : Nat} (h : FitP m a b) : fitB m a b = true := by unfold fitB; simp [h]
section
variable {gl : GL}
theorem fit_ok (c : Ct) (m : Mc) (a b : Nat) (hc : CtOK c a b) : PCall (C gl) 23 [encC c, encM m] (.bool (fitB m a b)) := by
  refine pcallX (callX_of b23 (by simp [Tryd.ntmps23]) ?_) (by simp only [AllCl, cl_encC, and_true, true_and]; exact cl_encM m) (.bool _)
  have p1 := pow2_le 3 hc.a3
  have p2 := pow2_le 3 hc.b3
  have hin := hc.inn
  have hout := hc.out
  have q1 := shl_one a (by have := hc.a3; omega)
  have q2 := shl_one b (by have := hc.b3; omega)
  refine W.of ?_
  rw [Tryd.ntmps23]
  simp only [toK, codeOf, Tryd.f23, go_sem, seval, reduceCtorEq]
  have hA := rows_len m.ans
  have hN := rows_len m.nxt
  have hpn : Nonempty (PLift (2 ^ a ≤ 8 ∧ 2 ^ b ≤ 8)) := ⟨⟨p1, p2⟩⟩
  clear p1 p2
  cases d1 : (m.inn == (a : Int)) with
  | false =>
    have hf := fit_no (m := m) (a := a) (b := b) fun h => absurd h.inn (beq_eq_false_iff_ne.1 d1)
    have H := And.intro @encM_eq (And.intro @hin (And.intro @hout (And.intro @d1 @hf)))
    refine autoA ?_
    repeat' (first | (refine WK.draw0 (ops := #[_, _, _, _, _, _, _, _, _, _, _, _, _, _, _, _, _, _, _, _, _, _]) mixed (by kernel_rfl) ?_; refine autoA ?_) | (refine WK.draw0 (ops := #[_, _, _, _, _, _, _, _, _, _, _, _, _, _, _, _, _, _, _, _, _, _, _, _, _, _, _, _, _, _, _, _, _, _, _, _, _, _, _, _, _, _, _, _, _, _, _, _]) mixed (by kernel_rfl) ?_; refine autoA ?_))
    try exact trivial
    exact cut_none _
  | true =>
  cases d2 : (m.out == (b : Int)) with
  | false =>
    have hf := fit_no (m := m) (a := a) (b := b) fun h => absurd h.out (beq_eq_false_iff_ne.1 d2)
    have H := And.intro @encM_eq (And.intro @hin (And.intro @hout (And.intro @d1 (And.intro @d2 @hf))))
    refine autoA ?_
    repeat' (first | (refine WK.draw0 (ops := #[_, _, _, _, _, _, _, _, _, _, _, _, _, _, _, _, _, _, _, _, _, _]) mixed (by kernel_rfl) ?_; refine autoA ?_) | (refine WK.draw0 (ops := #[_, _, _, _, _, _, _, _, _, _, _, _, _, _, _, _, _, _, _, _, _, _, _, _, _, _, _, _, _, _, _, _, _, _, _, _, _, _, _, _, _, _, _, _, _, _, _, _]) mixed (by kernel_rfl) ?_; refine autoA ?_))
    try exact trivial
    exact cut_none _
  | true =>
  cases d3 : decide ((m.ans.length : Int) < 1) with
  | true =>
    have hf := fit_no (m := m) (a := a) (b := b) fun h => by have := h.pos; have := of_decide_eq_true d3; omega
    have H := And.intro @encM_eq (And.intro @hin (And.intro @hout (And.intro @hA (And.intro @hN (And.intro @d1 (And.intro @d2 (And.intro @d3 @hf)))))))
    refine autoA ?_
    repeat' (first | (refine WK.draw0 (ops := #[_, _, _, _, _, _, _, _, _, _, _, _, _, _, _, _, _, _, _, _, _, _]) mixed (by kernel_rfl) ?_; refine autoA ?_) | (refine WK.draw0 (ops := #[_, _, _, _, _, _, _, _, _, _, _, _, _, _, _, _, _, _, _, _, _, _, _, _, _, _, _, _, _, _, _, _, _, _, _, _, _, _, _, _, _, _, _, _, _, _, _, _]) mixed (by kernel_rfl) ?_; refine autoA ?_))
    try exact trivial
    exact cut_none _
  | false =>
  cases d4 : decide ((m.ans.length : Int) > 2000) with
  | true =>
    have hf := fit_no (m := m) (a := a) (b := b) fun h => by have := h.le; have := of_decide_eq_true d4; omega
    have H := And.intro @encM_eq (And.intro @hin (And.intro @hout (And.intro @hA (And.intro @hN (And.intro @d1 (And.intro @d2 (And.intro @d3 (And.intro @d4 @hf))))))))
    refine autoA ?_
    repeat' (first | (refine WK.draw0 (ops := #[_, _, _, _, _, _, _, _, _, _, _, _, _, _, _, _, _, _, _, _, _, _]) mixed (by kernel_rfl) ?_; refine autoA ?_) | (refine WK.draw0 (ops := #[_, _, _, _, _, _, _, _, _, _, _, _, _, _, _, _, _, _, _, _, _, _, _, _, _, _, _, _, _, _, _, _, _, _, _, _, _, _, _, _, _, _, _, _, _, _, _, _]) mixed (by kernel_rfl) ?_; refine autoA ?_))
    try exact trivial
    exact cut_none _
  | false =>
  cases d5 : ((m.nxt.length : Int) == (m.ans.length : Int)) with
  | false =>
    have hf := fit_no (m := m) (a := a) (b := b) fun h => by have := h.nl; have := beq_eq_false_iff_ne.1 d5; omega
    have H := And.intro @encM_eq (And.intro @hin (And.intro @hout (And.intro @hA (And.intro @hN (And.intro @d1 (And.intro @d2 (And.intro @d3 (And.intro @d4 (And.intro @d5 @hf)))))))))
    refine autoA ?_
    repeat' (first | (refine WK.draw0 (ops := #[_, _, _, _, _, _, _, _, _, _, _, _, _, _, _, _, _, _, _, _, _, _]) mixed (by kernel_rfl) ?_; refine autoA ?_) | (refine WK.draw0 (ops := #[_, _, _, _, _, _, _, _, _, _, _, _, _, _, _, _, _, _, _, _, _, _, _, _, _, _, _, _, _, _, _, _, _, _, _, _, _, _, _, _, _, _, _, _, _, _, _, _]) mixed (by kernel_rfl) ?_; refine autoA ?_))
    try exact trivial
    exact cut_none _
  | true =>
    have e1 : m.inn = (a : Int) := beq_iff_eq.1 d1
    have e2 : m.out = (b : Int) := beq_iff_eq.1 d2
    have e5 : m.nxt.length = m.ans.length := by have := beq_iff_eq.1 d5; omega
    have l1 : 1 ≤ m.ans.length := by have := of_decide_eq_false d3; omega
    have l2 : m.ans.length ≤ 2000 := by have := of_decide_eq_false d4; omega
    have hln : Nonempty (PLift (1 ≤ m.ans.length ∧ m.ans.length ≤ 2000)) := ⟨⟨l1, l2⟩⟩
    clear l1 l2
    have H := And.intro @encM_eq (And.intro @hin (And.intro @hout (And.intro @hA (And.intro @hN (And.intro @d1 (And.intro @d2 (And.intro @d3 (And.intro @d4 @d5))))))))
    refine autoA ?_
    repeat' (first | (refine WK.draw0 (ops := #[_, _, _, _, _, _, _, _, _, _, _, _, _, _, _, _, _, _, _, _, _, _]) mixed (by kernel_rfl) ?_; refine autoA ?_) | (refine WK.draw0 (ops := #[_, _, _, _, _, _, _, _, _, _, _, _, _, _, _, _, _, _, _, _, _, _, _, _, _, _, _, _, _, _, _, _, _, _, _, _, _, _, _, _, _, _, _, _, _, _, _, _]) mixed (by kernel_rfl) ?_; refine autoA ?_))
    try exact trivial
    obtain ⟨⟨l1, l2⟩⟩ := hln
    refine rangeAI (m.ans.length) [2, 3] [] (fun s => []) (fun s => ((Sto.none.add (.box (ctCells c))).add (.box [.int .i64 m.inn, .int .i64 m.out, .list false (m.ans.map intL), .list false (m.nxt.map intL)]))) (fun s => ∀ t < s, RowOK m a b t) ?_ ?_
    · intro s hs hI
      have gA := rows_get m.ans s hs
      have gN := rows_get m.nxt s (by omega)
      have rA := row_len (m.ans.getD s [])
      have rN := row_len (m.nxt.getD s [])
      have hsN : s < m.nxt.length := by omega
      have hln : Nonempty (PLift (1 ≤ m.ans.length ∧ m.ans.length ≤ 2000)) := ⟨⟨l1, l2⟩⟩
      clear l1 l2
      cases c1 : (((m.ans.getD s []).length : Int) == ((2 ^ a : Nat) : Int)) with
      | false =>
        have hf := fit_no (m := m) (a := a) (b := b) fun h => by have := (h.rows s hs).al; have := beq_eq_false_iff_ne.1 c1; omega
        have H := And.intro @e1 (And.intro @e2 (And.intro @q1 (And.intro @q2 (And.intro @hA (And.intro @hN (And.intro @hs (And.intro @hsN (And.intro @gA (And.intro @gN (And.intro @rA (And.intro @rN (And.intro @c1 (And.intro @hf @Int.toNat_natCast)))))))))))))
        refine autoA ?_
        repeat' (first | (refine WK.draw0 (ops := #[_, _, _, _, _, _, _, _, _, _, _, _, _, _, _, _, _, _, _, _, _, _]) mixed (by kernel_rfl) ?_; refine autoA ?_) | (refine WK.draw0 (ops := #[_, _, _, _, _, _, _, _, _, _, _, _, _, _, _, _, _, _, _, _, _, _, _, _, _, _, _, _, _, _, _, _, _, _, _, _, _, _, _, _, _, _, _, _, _, _, _, _]) mixed (by kernel_rfl) ?_; refine autoA ?_))
        try exact trivial
        exact cut_none _
      | true =>
      cases c2 : (((m.nxt.getD s []).length : Int) == ((2 ^ a : Nat) : Int)) with
      | false =>
        have hf := fit_no (m := m) (a := a) (b := b) fun h => by have := (h.rows s hs).nl; have := beq_eq_false_iff_ne.1 c2; omega
        have H := And.intro @e1 (And.intro @e2 (And.intro @q1 (And.intro @q2 (And.intro @hA (And.intro @hN (And.intro @hs (And.intro @hsN (And.intro @gA (And.intro @gN (And.intro @rA (And.intro @rN (And.intro @c1 (And.intro @c2 (And.intro @hf @Int.toNat_natCast))))))))))))))
        refine autoA ?_
        repeat' (first | (refine WK.draw0 (ops := #[_, _, _, _, _, _, _, _, _, _, _, _, _, _, _, _, _, _, _, _, _, _]) mixed (by kernel_rfl) ?_; refine autoA ?_) | (refine WK.draw0 (ops := #[_, _, _, _, _, _, _, _, _, _, _, _, _, _, _, _, _, _, _, _, _, _, _, _, _, _, _, _, _, _, _, _, _, _, _, _, _, _, _, _, _, _, _, _, _, _, _, _]) mixed (by kernel_rfl) ?_; refine autoA ?_))
        try exact trivial
        exact cut_none _
      | true =>
        have la : (m.ans.getD s []).length = 2 ^ a := by have := beq_iff_eq.1 c1; omega
        have lb : (m.nxt.getD s []).length = 2 ^ a := by have := beq_iff_eq.1 c2; omega
        have H := And.intro @e1 (And.intro @e2 (And.intro @q1 (And.intro @q2 (And.intro @hA (And.intro @hN (And.intro @hs (And.intro @hsN (And.intro @gA (And.intro @gN (And.intro @rA (And.intro @rN (And.intro @c1 (And.intro @c2 (And.intro @la @Int.toNat_natCast))))))))))))))
        refine autoA ?_
        repeat' (first | (refine WK.draw0 (ops := #[_, _, _, _, _, _, _, _, _, _, _, _, _, _, _, _, _, _, _, _, _, _]) mixed (by kernel_rfl) ?_; refine autoA ?_) | (refine WK.draw0 (ops := #[_, _, _, _, _, _, _, _, _, _, _, _, _, _, _, _, _, _, _, _, _, _, _, _, _, _, _, _, _, _, _, _, _, _, _, _, _, _, _, _, _, _, _, _, _, _, _, _]) mixed (by kernel_rfl) ?_; refine autoA ?_))
        try exact trivial
        obtain ⟨⟨p1, p2⟩⟩ := hpn
        refine rangeAI ((2 ^ a)) [2, 3, 5, 42, 43] [] (fun i => []) (fun i => ((Sto.none.add (.box (ctCells c))).add (.box [.int .i64 m.inn, .int .i64 m.out, .list false (m.ans.map intL), .list false (m.nxt.map intL)]))) (fun i => ∀ t < i, CellOK m b s t) ?_ ?_
        · intro i hi hJ
          have ka : ((m.ans.getD s []).map fun x => AV.int .i64 x).getD i .undef = .int .i64 (at2 m.ans s i) := row_get _ i (by omega)
          have kb : ((m.nxt.getD s []).map fun x => AV.int .i64 x).getD i .undef = .int .i64 (at2 m.nxt s i) := row_get _ i (by omega)
          have hpn : Nonempty (PLift (2 ^ a ≤ 8 ∧ 2 ^ b ≤ 8)) := ⟨⟨p1, p2⟩⟩
          clear p1 p2
          cases k1 : decide (at2 m.ans s i < 0) with
          | true =>
            have hf := fit_no (m := m) (a := a) (b := b) fun h => by have := ((h.rows s hs).cells i hi).a0; have := of_decide_eq_true k1; omega
            have H := And.intro @e1 (And.intro @e2 (And.intro @q1 (And.intro @q2 (And.intro @hA (And.intro @hN (And.intro @hs (And.intro @hsN (And.intro @gA (And.intro @gN (And.intro @rA (And.intro @rN (And.intro @la (And.intro @lb (And.intro @hi (And.intro @ka (And.intro @kb (And.intro @k1 (And.intro @hf @Int.toNat_natCast))))))))))))))))))
            refine autoA ?_
            repeat' (first | (refine WK.draw0 (ops := #[_, _, _, _, _, _, _, _, _, _, _, _, _, _, _, _, _, _, _, _, _, _]) mixed (by kernel_rfl) ?_; refine autoA ?_) | (refine WK.draw0 (ops := #[_, _, _, _, _, _, _, _, _, _, _, _, _, _, _, _, _, _, _, _, _, _, _, _, _, _, _, _, _, _, _, _, _, _, _, _, _, _, _, _, _, _, _, _, _, _, _, _]) mixed (by kernel_rfl) ?_; refine autoA ?_))
            try exact trivial
            exact cut_none _
          | false =>
          cases k2 : decide (at2 m.ans s i ≥ ((2 ^ b : Nat) : Int)) with
          | true =>
            have hf := fit_no (m := m) (a := a) (b := b) fun h => by have := ((h.rows s hs).cells i hi).a1; have := of_decide_eq_true k2; omega
            have H := And.intro @e1 (And.intro @e2 (And.intro @q1 (And.intro @q2 (And.intro @hA (And.intro @hN (And.intro @hs (And.intro @hsN (And.intro @gA (And.intro @gN (And.intro @rA (And.intro @rN (And.intro @la (And.intro @lb (And.intro @hi (And.intro @ka (And.intro @kb (And.intro @k1 (And.intro @k2 (And.intro @hf @Int.toNat_natCast)))))))))))))))))))
            refine autoA ?_
            repeat' (first | (refine WK.draw0 (ops := #[_, _, _, _, _, _, _, _, _, _, _, _, _, _, _, _, _, _, _, _, _, _]) mixed (by kernel_rfl) ?_; refine autoA ?_) | (refine WK.draw0 (ops := #[_, _, _, _, _, _, _, _, _, _, _, _, _, _, _, _, _, _, _, _, _, _, _, _, _, _, _, _, _, _, _, _, _, _, _, _, _, _, _, _, _, _, _, _, _, _, _, _]) mixed (by kernel_rfl) ?_; refine autoA ?_))
            try exact trivial
            exact cut_none _
          | false =>
          cases k3 : decide (at2 m.nxt s i < 0) with
          | true =>
            have hf := fit_no (m := m) (a := a) (b := b) fun h => by have := ((h.rows s hs).cells i hi).n0; have := of_decide_eq_true k3; omega
            have H := And.intro @e1 (And.intro @e2 (And.intro @q1 (And.intro @q2 (And.intro @hA (And.intro @hN (And.intro @hs (And.intro @hsN (And.intro @gA (And.intro @gN (And.intro @rA (And.intro @rN (And.intro @la (And.intro @lb (And.intro @hi (And.intro @ka (And.intro @kb (And.intro @k1 (And.intro @k2 (And.intro @k3 (And.intro @hf @Int.toNat_natCast))))))))))))))))))))
            refine autoA ?_
            repeat' (first | (refine WK.draw0 (ops := #[_, _, _, _, _, _, _, _, _, _, _, _, _, _, _, _, _, _, _, _, _, _]) mixed (by kernel_rfl) ?_; refine autoA ?_) | (refine WK.draw0 (ops := #[_, _, _, _, _, _, _, _, _, _, _, _, _, _, _, _, _, _, _, _, _, _, _, _, _, _, _, _, _, _, _, _, _, _, _, _, _, _, _, _, _, _, _, _, _, _, _, _]) mixed (by kernel_rfl) ?_; refine autoA ?_))
            try exact trivial
            exact cut_none _
          | false =>
          cases k4 : decide (at2 m.nxt s i ≥ (m.ans.length : Int)) with
          | true =>
            have hf := fit_no (m := m) (a := a) (b := b) fun h => by have := ((h.rows s hs).cells i hi).n1; have := of_decide_eq_true k4; omega
            have H := And.intro @e1 (And.intro @e2 (And.intro @q1 (And.intro @q2 (And.intro @hA (And.intro @hN (And.intro @hs (And.intro @hsN (And.intro @gA (And.intro @gN (And.intro @rA (And.intro @rN (And.intro @la (And.intro @lb (And.intro @hi (And.intro @ka (And.intro @kb (And.intro @k1 (And.intro @k2 (And.intro @k3 (And.intro @k4 (And.intro @hf @Int.toNat_natCast)))))))))))))))))))))
            refine autoA ?_
            repeat' (first | (refine WK.draw0 (ops := #[_, _, _, _, _, _, _, _, _, _, _, _, _, _, _, _, _, _, _, _, _, _]) mixed (by kernel_rfl) ?_; refine autoA ?_) | (refine WK.draw0 (ops := #[_, _, _, _, _, _, _, _, _, _, _, _, _, _, _, _, _, _, _, _, _, _, _, _, _, _, _, _, _, _, _, _, _, _, _, _, _, _, _, _, _, _, _, _, _, _, _, _]) mixed (by kernel_rfl) ?_; refine autoA ?_))
            try exact trivial
            exact cut_none _
          | false =>
          have H := And.intro @e1 (And.intro @e2 (And.intro @q1 (And.intro @q2 (And.intro @hA (And.intro @hN (And.intro @hs (And.intro @hsN (And.intro @gA (And.intro @gN (And.intro @rA (And.intro @rN (And.intro @la (And.intro @lb (And.intro @hi (And.intro @ka (And.intro @kb (And.intro @k1 (And.intro @k2 (And.intro @k3 (And.intro @k4 @Int.toNat_natCast))))))))))))))))))))
          refine autoA ?_
          repeat' (first | (refine WK.draw0 (ops := #[_, _, _, _, _, _, _, _, _, _, _, _, _, _, _, _, _, _, _, _, _, _]) mixed (by kernel_rfl) ?_; refine autoA ?_) | (refine WK.draw0 (ops := #[_, _, _, _, _, _, _, _, _, _, _, _, _, _, _, _, _, _, _, _, _, _, _, _, _, _, _, _, _, _, _, _, _, _, _, _, _, _, _, _, _, _, _, _, _, _, _, _]) mixed (by kernel_rfl) ?_; refine autoA ?_))
          try exact trivial
          intro t ht
          rcases Nat.lt_succ_iff_lt_or_eq.1 ht with h | rfl
          · exact hJ t h
          · exact ⟨by have := of_decide_eq_false k1; omega, by have := of_decide_eq_false k2; omega, by have := of_decide_eq_false k3; omega, by have := of_decide_eq_false k4; omega⟩
        · intro hJ
          have hpn : Nonempty (PLift (2 ^ a ≤ 8 ∧ 2 ^ b ≤ 8)) := ⟨⟨p1, p2⟩⟩
          clear p1 p2
          have H := And.intro @e1 @e2
          refine autoA ?_
          repeat' (first | (refine WK.draw0 (ops := #[_, _, _, _, _, _, _, _, _, _, _, _, _, _, _, _, _, _, _, _, _, _]) mixed (by kernel_rfl) ?_; refine autoA ?_) | (refine WK.draw0 (ops := #[_, _, _, _, _, _, _, _, _, _, _, _, _, _, _, _, _, _, _, _, _, _, _, _, _, _, _, _, _, _, _, _, _, _, _, _, _, _, _, _, _, _, _, _, _, _, _, _]) mixed (by kernel_rfl) ?_; refine autoA ?_))
          try exact trivial
          intro t ht
          rcases Nat.lt_succ_iff_lt_or_eq.1 ht with h | rfl
          · exact hI t h
          · exact ⟨la, lb, hJ⟩
    · intro hI
      have hf := fit_yes (m := m) (a := a) (b := b) ⟨e1, e2, l1, l2, e5, hI⟩
      clear l1 l2
      have H := @hf
      refine autoA ?_
      repeat' (first | (refine WK.draw0 (ops := #[_, _, _, _, _, _, _, _, _, _, _, _, _, _, _, _, _, _, _, _, _, _]) mixed (by kernel_rfl) ?_; refine autoA ?_) | (refine WK.draw0 (ops := #[_, _, _, _, _, _, _, _, _, _, _, _, _, _, _, _, _, _, _, _, _, _, _, _, _, _, _, _, _, _, _, _, _, _, _, _, _, _, _, _, _, _, _, _, _, _, _, _]) mixed (by kernel_rfl) ?_; refine autoA ?_))
      try exact trivial
      exact cut_none _
end
end Go.Sx
