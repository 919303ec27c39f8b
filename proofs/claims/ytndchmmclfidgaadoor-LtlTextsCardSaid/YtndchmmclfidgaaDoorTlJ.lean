import Derived.Test.YtndchmmclfidgaaDoorTlF
import Derived.Test.YtndchmmclfidgaaDoorLgAv
import Derived.Test.YtndchmmclfidgaaDoorSxJ
import Derived.Test.YtndchmmclfidgaaDoorLgAw
set_option maxRecDepth 100000
set_option maxHeartbeats 4000000
set_option linter.unusedSimpArgs false
set_option linter.unusedVariables false
set_option linter.unnecessarySimpa false
namespace Go.Sx
open Go Go.Lg Go.Proofs
theorem b163 {gl : GL} : Body (C gl).P 163 Tryd.f163 (codeOf Tryd.f163) := ⟨Tryd.func163, by kernel_rfl, by kernel_rfl⟩
theorem b164 {gl : GL} : Body (C gl).P 164 Tryd.f164 (codeOf Tryd.f164) := ⟨Tryd.func164, by kernel_rfl, by kernel_rfl⟩
theorem b162 {gl : GL} : Body (C gl).P 162 Tryd.f162 (codeOf Tryd.f162) := ⟨Tryd.func162, by kernel_rfl, by kernel_rfl⟩
theorem b99 {gl : GL} : Body (C gl).P 99 Tryd.f99 (codeOf Tryd.f99) := ⟨Tryd.func99, by kernel_rfl, by kernel_rfl⟩
/-! ## Names on the reference side -/
def digI (b : Int) : Bool := decide (b ≥ 48) && decide (b ≤ 57)
theorem idI_or (b : Int) : idI b = (lowI b || digI b) := (rfl)
section
variable {gl : GL}
theorem small_ok (b : Int) : PCall (C gl) 163 [.int .u8 b] (.bool (lowI b)) := by
  refine pcallX (callX_of b163 (by simp [Tryd.ntmps163]) ?_) (by simp only [AllCl, cl_int, and_true]) (.bool _)
  refine W.of ?_
  rw [Tryd.ntmps163]
  simp only [toK, codeOf, Tryd.f163, go_sem, seval, reduceCtorEq]
  unfold lowI
  cases h : decide (b ≥ 97) with
  | true =>
    have H := @h
    refine autoA ?_
    try exact trivial
  | false =>
    have H := @h
    refine autoA ?_
    try exact trivial
instance small_i (b : Int) : Ctr (C gl) 163 [.int .u8 b] True (.bool (lowI b)) := ⟨fun _ => small_ok b⟩
theorem digit_ok (b : Int) : PCall (C gl) 164 [.int .u8 b] (.bool (digI b)) := by
  refine pcallX (callX_of b164 (by simp [Tryd.ntmps164]) ?_) (by simp only [AllCl, cl_int, and_true]) (.bool _)
  refine W.of ?_
  rw [Tryd.ntmps164]
  simp only [toK, codeOf, Tryd.f164, go_sem, seval, reduceCtorEq]
  unfold digI
  cases h : decide (b ≥ 48) with
  | true =>
    have H := @h
    refine autoA ?_
    try exact trivial
  | false =>
    have H := @h
    refine autoA ?_
    try exact trivial
instance digit_i (b : Int) : Ctr (C gl) 164 [.int .u8 b] True (.bool (digI b)) := ⟨fun _ => digit_ok b⟩
end
/-! ### What a name is -/
theorem trimS_iff (s : Bs) : (trimS s == []) = s.all idC := by
  cases h : s.all idC with
  | true =>
    have hall : ∀ c ∈ s, idC c = true := fun c hc => List.all_eq_true.1 h c hc
    have h1 : rdrop alnum s = [] := by
      unfold rdrop
      rw [List.reverse_eq_nil_iff]
      have : ∀ (l : Bs), (∀ c ∈ l, alnum c = true) → l.dropWhile alnum = [] := by
        intro l
        induction l with
        | nil => intro _; rfl
        | cons c l ih =>
          intro h
          rw [List.dropWhile_cons, if_pos (h c List.mem_cons_self)]
          exact ih fun x hx => h x (List.mem_cons_of_mem _ hx)
      exact this _ fun c hc => by rw [alnum_eq]; exact hall c (List.mem_reverse.1 hc)
    unfold trimS
    rw [h1]; rfl
  | false =>
    refine Bool.eq_false_iff.2 fun hh => ?_
    have := trimS_nil (eq_of_beq hh)
    rw [List.all_eq_true.2 this] at h; cases h
theorem nameS_eq (s : Bs) : nameS s = (!(s == []) && (!decide ((s.length : Int) > 12) && (lowI (byI s 0) && (!(s == trueT) && (!(s == falseT) && s.all idC))))) := by
  unfold nameS lowI
  rw [trimS_iff]
  cases s == [] <;> cases decide ((s.length : Int) > 12) <;> cases s == trueT <;> cases s == falseT <;> simp only [Bool.true_or, Bool.or_true, Bool.false_or, Bool.or_false, if_true, Bool.not_true, Bool.not_false, Bool.false_and, Bool.and_false, Bool.true_and] <;> try rfl
  by_cases h1 : byI s 0 < 97
  · rw [if_pos (by simp [h1])]
    have : decide (byI s 0 ≥ 97) = false := by simp; omega
    rw [this]; simp
  · by_cases h2 : byI s 0 > 122
    · rw [if_pos (by simp [h2])]
      have : decide (byI s 0 ≤ 122) = false := by simp; omega
      rw [this]; simp
    · rw [if_neg (by simp; omega)]
      have a1 : decide (byI s 0 ≥ 97) = true := by simp; omega
      have a2 : decide (byI s 0 ≤ 122) = true := by simp; omega
      rw [a1, a2]; simp
section
variable {gl : GL}
theorem nameR_ok (s : Bs) (hs : s.length < 1000000000) : PCall (C gl) 162 [.str (tx s)] (.bool (nameS s)) := by
  refine pcallX (callX_of b162 (by simp [Tryd.ntmps162]) ?_) (by simp only [AllCl, cl_str, and_true]) (.bool _)
  refine W.of ?_
  rw [Tryd.ntmps162]
  simp only [toK, codeOf, Tryd.f162, go_sem, seval, reduceCtorEq]
  rw [show ([116, 114, 117, 101] : Bs) = trueT from rfl, show ([102, 97, 108, 115, 101] : Bs) = falseT from rfl]
  cases z0 : (s == []) with
  | true =>
    have hf : nameS s = false := by rw [nameS_eq, z0]; rfl
    rw [hf]
    have H := @z0
    refine autoA ?_
    try exact trivial
  | false =>
  have hlen : (0 : Int) < (s.length : Int) := by
    cases s with
    | nil => simp at z0
    | cons _ _ => simp
  cases z1 : decide ((s.length : Int) > 12) with
  | true =>
    have hf : nameS s = false := by rw [nameS_eq, z0, z1]; rfl
    rw [hf]
    have H := And.intro @z0 (And.intro @z1 @hlen)
    refine autoA ?_
    try exact trivial
  | false =>
  cases z2 : lowI (byI s 0) with
  | false =>
    have hf : nameS s = false := by rw [nameS_eq, z0, z1, z2]; rfl
    rw [hf]
    have H := And.intro @z0 (And.intro @z1 (And.intro @z2 @hlen))
    refine autoA ?_
    try exact trivial
  | true =>
  cases z3 : (s == trueT) with
  | true =>
    have hf : nameS s = false := by rw [nameS_eq, z0, z1, z2, z3]; rfl
    rw [hf]
    have H := And.intro @z0 (And.intro @z1 (And.intro @z2 (And.intro @z3 @hlen)))
    refine autoA ?_
    try exact trivial
  | false =>
  cases z4 : (s == falseT) with
  | true =>
    have hf : nameS s = false := by rw [nameS_eq, z0, z1, z2, z3, z4]; rfl
    rw [hf]
    have H := And.intro @z0 (And.intro @z1 (And.intro @z2 (And.intro @z3 (And.intro @z4 @hlen))))
    refine autoA ?_
    try exact trivial
  | false =>
  have hf : nameS s = s.all idC := by rw [nameS_eq, z0, z1, z2, z3, z4]; rfl
  rw [hf]
  have H := And.intro @z0 (And.intro @z1 (And.intro @z2 (And.intro @z3 (And.intro @z4 @hlen))))
  refine autoN ?_
  try exact trivial
  refine WK.block ?_
  refine WK.loopX [0] [3] (fun k : Nat => [.int .i64 k]) (fun _ => Sto.none) (fun k => k ≤ s.length ∧ (s.take k).all idC = true) (fun k => s.length - k) 0 (by decide) ⟨Nat.zero_le _, by rw [List.take_zero]; rfl⟩ (by simp only [go_sem, seval, reduceCtorEq]) rfl ?_
  rintro k ⟨hk, hI⟩
  simp only [go_sem, seval, reduceCtorEq]
  by_cases hb : k < s.length
  · have hbd : decide ((k : Int) < (s.length : Int)) = true := by simp; omega
    have hib : (k : Int) < (s.length : Int) := by omega
    have hw : IntKind.i64.wrap ((k : Int) + 1) = ((k + 1 : Nat) : Int) := by rw [wrap_lt (by omega) (by omega)]; omega
    have hby : idI (byI s k) = idC s[k] := by unfold idC byI; simp [List.getD_eq_getElem?_getD, hb]
    have hnext : (s.take (k + 1)).all idC = idC s[k] := by rw [← List.take_append_getElem hb, List.all_append, hI]; simp
    have hfalse : idC s[k] = false → s.all idC = false := fun h => by
      rw [List.all_eq_false]; exact ⟨_, List.getElem_mem hb, by rw [h]; decide⟩
    rw [idI_or] at hby
    cases q1 : lowI (byI s k) with
    | true =>
      rw [q1, Bool.true_or] at hby
      have H := And.intro @hbd (And.intro @hib (And.intro @hw @q1))
      refine autoA ?_
      try exact trivial
      exact ⟨k + 1, ⟨hb, by rw [hnext, ← hby]⟩, by omega, rfl⟩
    | false =>
      rw [q1, Bool.false_or] at hby
      cases q2 : digI (byI s k) with
      | true =>
        rw [q2] at hby
        have H := And.intro @hbd (And.intro @hib (And.intro @hw (And.intro @q1 @q2)))
        refine autoA ?_
        try exact trivial
        exact ⟨k + 1, ⟨hb, by rw [hnext, ← hby]⟩, by omega, rfl⟩
      | false =>
        rw [q2] at hby
        rw [hfalse hby.symm]
        have H := And.intro @hbd (And.intro @hib (And.intro @hw (And.intro @q1 @q2)))
        refine autoA ?_
        try exact trivial
  · have hbd : decide ((k : Int) < (s.length : Int)) = false := by simp; omega
    have hkl : k = s.length := by omega
    rw [hkl, List.take_length] at hI
    rw [hI]
    have H := @hbd
    refine autoA ?_
    try exact trivial
theorem namedR_ok (l : List Bs) (hN : NsOK l) : PCall (C gl) 99 [.list false (l.map encT)] (.int .i64 (namedS l)) := by
  refine pcallX (callX_of b99 (by simp [Tryd.ntmps99]) ?_) (by simp only [AllCl, cl_str, cl_list, and_true]; exact of_eq_true (clE_T _)) (.int _ _)
  refine W.of ?_
  rw [Tryd.ntmps99]
  simp only [toK, codeOf, Tryd.f99, go_sem, seval, reduceCtorEq]
  have hlen := hN.len
  have hml : (l.map encT).length = l.length := List.length_map _
  cases hb : decide ((l.length : Int) > 6) with
  | true =>
    rw [namedS, if_pos (of_decide_eq_true hb)]
    have H := And.intro @hml @hb
    refine autoA ?_
    try exact trivial
  | false =>
  have hn6 : ¬ (l.length : Int) > 6 := of_decide_eq_false hb
  have hall := hN.all (by omega)
  have H := And.intro @hml @hb
  refine autoN ?_
  try exact trivial
  refine rangeAI (l.length) [0, 10] [] (fun i => []) (fun i => Sto.none) (fun i => ∀ j, j < i → badN l j = false) ?_ ?_
  · intro i hi hI
    have e := map_getT encT l i hi
    have e2 : (l.map encT).getD i .undef = .str (tx l[i]) := e
    have e3 : l.getD i [] = l[i] := by simp [List.getD_eq_getElem?_getD, hi]
    have hnm : Ctr (C gl) 162 [.str (tx l[i])] True (.bool (nameS l[i])) := ⟨fun _ => nameR_ok _ (hall _ (List.getElem_mem hi))⟩
    cases hn : nameS l[i] with
    | false =>
      have hb' : badN l i = true := by unfold badN; rw [e3, hn]; rfl
      rw [namedS, if_neg hn6, if_pos (List.any_eq_true.2 ⟨i, List.mem_range.2 hi, hb'⟩)]
      have H := And.intro @hml (And.intro @e2 (And.intro @hi @hn))
      refine autoA ?_
      try exact trivial
    | true =>
      have htl : ((l.map encT).take i).length = i := by rw [List.length_take, List.length_map]; omega
      have H := And.intro @hml (And.intro @e2 (And.intro @hi (And.intro @hn @htl)))
      refine autoN ?_
      try exact trivial
      refine ⟨⟨by omega, by omega, by omega, fun x hx => by obtain ⟨y, _, rfl⟩ := List.mem_map.1 hx; rfl⟩, ?_⟩
      refine rangeAI (i) [0, 4, 10, 11, 12, 22] [] (fun j => []) (fun j => Sto.none) (fun j => ∀ x ∈ l.take j, (l[i] == x) = false) ?_ ?_
      · intro j hj hJ
        have hjl : j < l.length := by omega
        have g2 : ((l.map encT).take i).getD j .undef = .str (tx l[j]) := by
          rw [List.getD_eq_getElem?_getD, List.getElem?_take, if_pos hj, ← List.getD_eq_getElem?_getD, map_getT encT l j hjl]; rfl
        cases hc : (l[i] == l[j]) with
        | true =>
          have hb' : badN l i = true := by
            unfold badN
            rw [e3, hn, Bool.not_true, Bool.false_or, List.any_eq_true]
            exact ⟨l[j], List.mem_take_iff_getElem.2 ⟨j, by omega, rfl⟩, hc⟩
          rw [namedS, if_neg hn6, if_pos (List.any_eq_true.2 ⟨i, List.mem_range.2 hi, hb'⟩)]
          have H := And.intro @hml (And.intro @g2 (And.intro @hj (And.intro @hc @htl)))
          refine autoA ?_
          try exact trivial
        | false =>
          have H := And.intro @hml (And.intro @g2 (And.intro @hj (And.intro @hc @htl)))
          refine autoA ?_
          try exact trivial
          intro x hx
          rw [← List.take_append_getElem hjl] at hx
          rcases List.mem_append.1 hx with hx | hx
          · exact hJ x hx
          · rw [List.mem_singleton] at hx; rw [hx]; exact hc
      · intro hJ
        have hb' : badN l i = false := by
          unfold badN
          rw [e3, hn, Bool.not_true, Bool.false_or, List.any_eq_false]
          intro x hx
          rw [hJ x hx]; exact Bool.false_ne_true
        have H := @hml
        refine autoA ?_
        try exact trivial
        intro j hj
        by_cases e : j = i
        · rw [e]; exact hb'
        · exact hI j (by omega)
  · intro hI
    have : namedS l = 0 := by
      rw [namedS, if_neg hn6, if_neg]
      intro h
      obtain ⟨j, hj, hb'⟩ := List.any_eq_true.1 h
      rw [hI j (List.mem_range.1 hj)] at hb'; cases hb'
    rw [this]
    have H := @hml
    refine autoA ?_
    try exact trivial
end
end Go.Sx

set_option maxRecDepth 100000
set_option maxHeartbeats 4000000
set_option linter.unusedSimpArgs false
set_option linter.unusedVariables false
set_option linter.unnecessarySimpa false
namespace Go.Sx
open Go Go.Lg Go.Proofs
theorem b166 {gl : GL} : Body (C gl).P 166 Tryd.f166 (codeOf Tryd.f166) := ⟨Tryd.func166, by kernel_rfl, by kernel_rfl⟩
theorem b169 {gl : GL} : Body (C gl).P 169 Tryd.f169 (codeOf Tryd.f169) := ⟨Tryd.func169, by kernel_rfl, by kernel_rfl⟩
theorem b103 {gl : GL} : Body (C gl).P 103 Tryd.f103 (codeOf Tryd.f103) := ⟨Tryd.func103, by kernel_rfl, by kernel_rfl⟩
theorem b40 {gl : GL} : Body (C gl).P 40 Tryd.f40 (codeOf Tryd.f40) := ⟨Tryd.func40, by kernel_rfl, by kernel_rfl⟩
/-! ## Writing on the reference side -/
abbrev Sg := Int × Bs × Int × Bool
def sgT : List Sg := [(7, iffT, 1, false), (6, impT, 2, true), (5, [124], 3, false), (4, [38], 4, false), (11, [85], 5, true), (12, [82], 5, true), (13, [87], 5, true)]
def encS (x : Sg) : AV := .agg [.int .i64 x.1, .str (tx x.2.1), .int .i64 x.2.2.1, .bool x.2.2.2]
def ofT (o : Int) : Option Sg := sgT.find? fun x => x.1 == o
def sg0 : Sg := (0, [], 0, false)
theorem ofT_nat : ∀ k : Nat, k < 14 → ofT (k : Int) = if arityL.getD k 0 = 2 then some ((k : Int), signsL.getD k [], strengthL.getD k 0, rightL.getD k false) else none := by
  intro k hk
  obtain rfl | rfl | rfl | rfl | rfl | rfl | rfl | rfl | rfl | rfl | rfl | rfl | rfl | rfl : k = 0 ∨ k = 1 ∨ k = 2 ∨ k = 3 ∨ k = 4 ∨ k = 5 ∨ k = 6 ∨ k = 7 ∨ k = 8 ∨ k = 9 ∨ k = 10 ∨ k = 11 ∨ k = 12 ∨ k = 13 := by omega
  all_goals rfl
section
variable {gl : GL}
theorem encS_cl (x : Sg) : ∀ c ∈ (encS x).cells, Closed c := by
  intro c hc
  simp only [encS, AV.cells, List.mem_cons, List.not_mem_nil, or_false] at hc
  rcases hc with rfl | rfl | rfl | rfl
  · exact .int _ _
  · exact .str _
  · exact .int _ _
  · exact .bool _
theorem sgT_cl : Closed (.list false (sgT.map encS)) := .list _ _ fun x hx c hc => by
  obtain ⟨y, _, rfl⟩ := List.mem_map.1 hx
  exact encS_cl y c hc
theorem signs_ok : PCall (C gl) 166 [] (.list false (sgT.map encS)) := by
  refine pcallX (callX_of b166 (by simp [Tryd.ntmps166]) ?_) trivial sgT_cl
  refine W.of ?_
  rw [Tryd.ntmps166]
  simp only [toK, codeOf, Tryd.f166, go_sem, seval, reduceCtorEq]
  have H := trivial
  refine autoA ?_
  try exact trivial
  refine ⟨AV.le_list' _, fun x hx c hc => ?_⟩
  obtain ⟨y, _, rfl⟩ := List.mem_map.1 hx
  exact (encS_cl y c hc).bel
instance signs_i : Ctr (C gl) 166 [] True (.list false (sgT.map encS)) := ⟨fun _ => signs_ok⟩
theorem sgT_len : (sgT.map encS).length = 7 := rfl
theorem sgT_get (j : Nat) (h : j < sgT.length) : (sgT.map encS).getD j .undef = .agg [.int .i64 sgT[j].1, .str (tx sgT[j].2.1), .int .i64 sgT[j].2.2.1, .bool sgT[j].2.2.2] := by
  rw [List.getD_eq_getElem?_getD, List.getElem?_map, List.getElem?_eq_getElem h]; rfl
theorem find_take {o : Int} {j : Nat} (h : ∀ x ∈ sgT.take j, (x.1 == o) = false) : ofT o = (sgT.drop j).find? fun x => x.1 == o := by
  unfold ofT
  conv => lhs; rw [← List.take_append_drop j sgT, List.find?_append]
  have : (sgT.take j).find? (fun x => x.1 == o) = none := List.find?_eq_none.2 fun x hx => by rw [h x hx]; exact Bool.false_ne_true
  rw [this, Option.none_or]
theorem of_ok (o : Int) : PCall (C gl) 169 [.int .i64 o] (.tup [encS ((ofT o).getD sg0), .bool (ofT o).isSome]) := by
  refine pcallX (callX_of b169 (by simp [Tryd.ntmps169]) ?_) (by simp only [AllCl, cl_int, and_true]) (by simp only [cl_tup, AllCl, encS, cl_agg, cl_int, cl_str, cl_bool, and_true])
  refine W.of ?_
  rw [Tryd.ntmps169]
  simp only [toK, codeOf, Tryd.f169, go_sem, seval, reduceCtorEq]
  have H := @sgT_len
  refine autoN ?_
  try exact trivial
  refine rangeAI (7) [0, 2, 6] [] (fun i => []) (fun i => (Sto.none.add (.box [.int .i64 0, .str (tx []), .int .i64 0, .bool false]))) (fun i => ∀ x ∈ sgT.take i, (x.1 == o) = false) ?_ ?_
  · intro j hj hJ
    have hjl : j < sgT.length := hj
    have e := sgT_get j hjl
    cases hc : (sgT[j].1 == o) with
    | true =>
      have ef : ofT o = some sgT[j] := by
        rw [find_take hJ, List.drop_eq_getElem_cons hjl, List.find?_cons, hc]
      rw [ef]
      have H := And.intro @sgT_len (And.intro @e (And.intro @hj @hc))
      refine autoA ?_
      try exact trivial
      exact ⟨⟨.refl _, of_eq_true (bel_agg.trans (by simp only [go_sem, seval, reduceCtorEq]))⟩, cut_none _⟩
    | false =>
      have H := And.intro @sgT_len (And.intro @e (And.intro @hj @hc))
      refine autoA ?_
      try exact trivial
      refine ⟨fun x hx => ?_, cutA⟩
      rw [← List.take_append_getElem hjl] at hx
      rcases List.mem_append.1 hx with hx | hx
      · exact hJ x hx
      · rw [List.mem_singleton] at hx; rw [hx]; exact hc
  · intro hJ
    have ef : ofT o = none := by
      rw [find_take hJ]; rfl
    rw [ef]
    have H := trivial
    refine autoA ?_
    try exact trivial
    exact ⟨⟨.refl _, of_eq_true (bel_agg.trans (by simp only [go_sem, seval, reduceCtorEq]))⟩, cut_none _⟩
/-- of at an operator's number. -/
theorem of_yes {k : Nat} (hk : k < 14) (ha : arityL.getD k 0 = 2) : Ctr (C gl) 169 [.int .i64 (k : Int)] True (.tup [.agg [.int .i64 (k : Int), .str (tx (signsL.getD k [])), .int .i64 (strengthL.getD k 0), .bool (rightL.getD k false)], .bool true]) := ⟨fun _ => by
  have := of_ok (gl := gl) (k : Int)
  rw [ofT_nat k hk, if_pos ha] at this
  exact this⟩
theorem of_no {k : Nat} (hk : k < 14) (ha : ¬ arityL.getD k 0 = 2) : Ctr (C gl) 169 [.int .i64 (k : Int)] True (.tup [.agg [.int .i64 0, .str (tx []), .int .i64 0, .bool false], .bool false]) := ⟨fun _ => by
  have := of_ok (gl := gl) (k : Int)
  rw [ofT_nat k hk, if_neg ha] at this
  exact this⟩
theorem writeR_k (ns : List Bs) (hn : namedS ns = 0) (o v : Int) (l : List Fm) (hok : ∀ g ∈ nodesF (.mk o v l), okNode ns.length g = true) (hsz : (nodesF (.mk o v l)).length ≤ 1000)
    (ih : ∀ g, Ctr (C gl) 103 [.list false (ns.map encT), encF g] (g ∈ l) (.str (tx (wrS ns g)))) : PCall (C gl) 103 [.list false (ns.map encT), encF (.mk o v l)] (.str (tx (wrS ns (.mk o v l)))) := by
  have hsub : ∀ g ∈ l, ∀ x ∈ nodesF g, okNode ns.length x = true := fun g hg x hx => hok x (by rw [nodesF]; exact List.mem_cons_of_mem _ (nodesL_sub hg hx))
  have hlen : ∀ g ∈ l, (wrS ns g).length ≤ 20000 := fun g hg => by
    have h1 := wr_len ns hn g (hsub g hg)
    have h2 : (nodesF g).length ≤ (nodesF (.mk o v l)).length := by
      rw [nodesF, List.length_cons]
      obtain ⟨a, b, rfl⟩ := List.append_of_mem hg
      have : ∀ a b : List Fm, (nodesL (a ++ b)).length = (nodesL a).length + (nodesL b).length := fun a b => by
        induction a with
        | nil => simp [nodesL]
        | cons x a ih => simp only [List.cons_append, nodesL, List.length_append, ih]; omega
      rw [this, nodesL, List.length_append]; omega
    omega
  obtain ⟨k, rfl, hk, hal, hv2, hv0⟩ := node_of (hok _ (nodes_self _))
  have hop : ∀ g ∈ l, ∃ k : Nat, g.op = (k : Int) ∧ k < 14 := fun g hg => by
    have := hsub g hg g (nodes_self _)
    obtain ⟨o', v', l'⟩ := g
    obtain ⟨k, h1, h2, _⟩ := node_of this
    exact ⟨k, h1, h2⟩
  refine pcallX (callX_of b103 (by simp [Tryd.ntmps103]) ?_) (by simp only [AllCl, cl_encF, cl_list, and_true]; exact of_eq_true (clE_T _)) (.str _)
  refine W.of ?_
  rw [Tryd.ntmps103]
  simp only [toK, codeOf, Tryd.f103, go_sem, seval, reduceCtorEq]
  rw [show ([116, 114, 117, 101] : Bs) = trueT from rfl, show ([102, 97, 108, 115, 101] : Bs) = falseT from rfl]
  have hml : (ns.map encT).length = ns.length := List.length_map _
  rcases arL_nat k hk with ha | ha | ha
  · rw [ha] at hal
    have := args0 hal
    subst this
    obtain rfl | rfl | rfl : k = 0 ∨ k = 1 ∨ k = 2 := by
      obtain rfl | rfl | rfl | rfl | rfl | rfl | rfl | rfl | rfl | rfl | rfl | rfl | rfl | rfl : k = 0 ∨ k = 1 ∨ k = 2 ∨ k = 3 ∨ k = 4 ∨ k = 5 ∨ k = 6 ∨ k = 7 ∨ k = 8 ∨ k = 9 ∨ k = 10 ∨ k = 11 ∨ k = 12 ∨ k = 13 := by omega
      all_goals first | (left; rfl) | (right; left; rfl) | (right; right; rfl) | exact absurd ha (by decide)
    · rw [show wrS ns (.mk ((0 : Nat) : Int) v []) = trueT from rfl]
      have H := trivial
      refine autoA ?_
      repeat' (first | (refine WK.draw (ops := #[_, _, _, _, _, _, _, _, _, _, _, _, _, _]) [dq 0 0, dq 0 0, dq 0 0, dq 0 0, dq 0 0, dm, dq 0 0, dq 0 0, dq 1 0, dq 1 0, dq 1 0, dm, dq 0 0, dq 0 0] mixed (by kernel_rfl) ?_; refine autoA ?_))
      try exact trivial
      exact cut_none _
    · rw [show wrS ns (.mk ((1 : Nat) : Int) v []) = falseT from rfl]
      have H := trivial
      refine autoA ?_
      repeat' (first | (refine WK.draw (ops := #[_, _, _, _, _, _, _, _, _, _, _, _, _, _]) [dq 0 0, dq 0 0, dq 0 0, dq 0 0, dq 0 0, dm, dq 0 0, dq 0 0, dq 1 0, dq 1 0, dq 1 0, dm, dq 0 0, dq 0 0] mixed (by kernel_rfl) ?_; refine autoA ?_))
      try exact trivial
      exact cut_none _
    · obtain ⟨i, rfl, hi⟩ := hv2 rfl
      have e3 : ns.getD i [] = ns[i] := by simp [List.getD_eq_getElem?_getD, hi]
      have ew : wrS ns (.mk ((2 : Nat) : Int) i []) = ns[i] := by
        simp only [wrS, wrC, arAt, Int.toNat_natCast, ha, e3, beq_self_eq_true, if_true]
        rfl
      have g5 := map_getT encT ns i hi
      have g5 : (ns.map encT).getD i .undef = .str (tx ns[i]) := g5
      rw [ew]
      have H := And.intro @g5 (And.intro @hi @hml)
      refine autoA ?_
      repeat' (first | (refine WK.draw (ops := #[_, _, _, _, _, _, _, _, _, _, _, _, _, _]) [dq 0 0, dq 0 0, dq 0 0, dq 0 0, dq 0 0, dm, dq 0 0, dq 0 0, dq 1 0, dq 1 0, dq 1 0, dm, dq 0 0, dq 0 0] mixed (by kernel_rfl) ?_; refine autoA ?_))
      try exact trivial
      exact cut_none _
  · rw [ha] at hal
    obtain ⟨g, rfl⟩ := args1 hal
    obtain ⟨kg, hkg, hkg14⟩ := hop g (by simp)
    have hlg := hlen g (by simp)
    have hwg : Ctr (C gl) 103 [.list false (ns.map encT), encF g] True (.str (tx (wrS ns g))) := ⟨fun _ => (ih g).ok (by simp)⟩
    clear ih
    have z1 : ((1 : Int) == 0) = false := by decide
    have ew : wrS ns (.mk k v [g]) = (signsL.getD k [] ++ if (k : Int) == 3 then [] else [32]) ++ brk (arityL.getD kg 0 == 2) (wrS ns g) := by
      simp only [wrS, wrL, wrC, hkg, arAt, Int.toNat_natCast, ha, z1, signAt, beq_self_eq_true, if_true, Bool.false_eq_true, if_false]
    rw [ew]
    by_cases hag : arityL.getD kg 0 = 2
    · have hof := of_yes (gl := gl) hkg14 hag
      rw [← hkg] at hof
      rw [hag, beq_self_eq_true, show ∀ s, brk true s = [40] ++ s ++ [41] from fun _ => rfl]
      obtain rfl | rfl | rfl | rfl : k = 3 ∨ k = 8 ∨ k = 9 ∨ k = 10 := by
        obtain rfl | rfl | rfl | rfl | rfl | rfl | rfl | rfl | rfl | rfl | rfl | rfl | rfl | rfl : k = 0 ∨ k = 1 ∨ k = 2 ∨ k = 3 ∨ k = 4 ∨ k = 5 ∨ k = 6 ∨ k = 7 ∨ k = 8 ∨ k = 9 ∨ k = 10 ∨ k = 11 ∨ k = 12 ∨ k = 13 := by omega
        all_goals first | omega | exact absurd ha (by decide)
      all_goals
        have H := trivial
        refine autoA ?_
        repeat' (first | (refine WK.draw (ops := #[_, _, _, _, _, _, _, _, _, _, _, _, _, _]) [dq 0 0, dq 0 0, dq 0 0, dq 0 0, dq 0 0, dm, dq 0 0, dq 0 0, dq 1 0, dq 1 0, dq 1 0, dm, dq 0 0, dq 0 0] mixed (by kernel_rfl) ?_; refine autoA ?_))
        try exact trivial
        refine ⟨by simp only [List.length_append, List.length_cons, List.length_nil]; omega, ?_⟩
        refine autoA ?_
        exact ⟨.refl _, cut_none _⟩
    · have hof := of_no (gl := gl) hkg14 hag
      rw [← hkg] at hof
      have hbf : (arityL.getD kg 0 == 2) = false := by simpa using hag
      rw [hbf, show ∀ s, brk false s = s from fun _ => rfl]
      obtain rfl | rfl | rfl | rfl : k = 3 ∨ k = 8 ∨ k = 9 ∨ k = 10 := by
        obtain rfl | rfl | rfl | rfl | rfl | rfl | rfl | rfl | rfl | rfl | rfl | rfl | rfl | rfl : k = 0 ∨ k = 1 ∨ k = 2 ∨ k = 3 ∨ k = 4 ∨ k = 5 ∨ k = 6 ∨ k = 7 ∨ k = 8 ∨ k = 9 ∨ k = 10 ∨ k = 11 ∨ k = 12 ∨ k = 13 := by omega
        all_goals first | omega | exact absurd ha (by decide)
      all_goals
        have H := trivial
        refine autoA ?_
        repeat' (first | (refine WK.draw (ops := #[_, _, _, _, _, _, _, _, _, _, _, _, _, _]) [dq 0 0, dq 0 0, dq 0 0, dq 0 0, dq 0 0, dm, dq 0 0, dq 0 0, dq 1 0, dq 1 0, dq 1 0, dm, dq 0 0, dq 0 0] mixed (by kernel_rfl) ?_; refine autoA ?_))
        try exact trivial
        exact ⟨.refl _, cut_none _⟩
  · have hak := ha
    rw [ha] at hal
    obtain ⟨g, h, rfl⟩ := args2 hal
    obtain ⟨kg, hkg, hkg14⟩ := hop g (by simp)
    obtain ⟨kh, hkh, hkh14⟩ := hop h (by simp)
    have hlg := hlen g (by simp)
    have hlh := hlen h (by simp)
    have hwg : Ctr (C gl) 103 [.list false (ns.map encT), encF g] True (.str (tx (wrS ns g))) := ⟨fun _ => (ih g).ok (by simp)⟩
    have hwh : Ctr (C gl) 103 [.list false (ns.map encT), encF h] True (.str (tx (wrS ns h))) := ⟨fun _ => (ih h).ok (by simp)⟩
    clear ih
    have z1 : ((2 : Int) == 0) = false := by decide
    have z2 : ((2 : Int) == 1) = false := by decide
    have ew : wrS ns (.mk k v [g, h]) = brk (lbr k kg) (wrS ns g) ++ ([32] ++ signsL.getD k [] ++ [32]) ++ brk (rbr k kh) (wrS ns h) := by
      simp only [wrS, wrL, wrC, hkg, hkh, arAt, Int.toNat_natCast, ha, signAt, z1, z2, Bool.false_eq_true, if_false, lbr, rbr]
    have hk3 : ((k : Int) == 0) = false ∧ ((k : Int) == 1) = false ∧ ((k : Int) == 2) = false := by
      refine ⟨?_, ?_, ?_⟩ <;> (refine Bool.eq_false_iff.2 fun hh => ?_; have hh := eq_of_beq hh)
      · obtain rfl : k = 0 := by omega
        exact absurd ha (by decide)
      · obtain rfl : k = 1 := by omega
        exact absurd ha (by decide)
      · obtain rfl : k = 2 := by omega
        exact absurd ha (by decide)
    obtain ⟨y0, y1, y2⟩ := hk3
    have hown := of_yes (gl := gl) hk ha
    rw [ew]
    have hml2 : ([g, h].map encF).length = 2 := rfl
    have H := And.intro @y0 (And.intro @y1 @y2)
    refine autoN ?_
    repeat' (first | (refine WK.draw (ops := #[_, _, _, _, _, _, _, _, _, _, _, _, _, _]) [dq 0 0, dq 0 0, dq 0 0, dq 0 0, dq 0 0, dm, dq 0 0, dq 0 0, dq 1 0, dq 1 0, dq 1 0, dm, dq 0 0, dq 0 0] mixed (by kernel_rfl) ?_; refine autoN ?_))
    try exact trivial
    have hog : Ctr (C gl) 169 [.int .i64 g.op] True (.tup [.agg [.int .i64 ((ofT g.op).getD sg0).1, .str (tx ((ofT g.op).getD sg0).2.1), .int .i64 ((ofT g.op).getD sg0).2.2.1, .bool ((ofT g.op).getD sg0).2.2.2], .bool (ofT g.op).isSome]) := ⟨fun _ => of_ok g.op⟩
    refine callK_ofN ?_
    simp only [go_sem, seval, reduceCtorEq, y0]
    refine callN_auto trivial ?_
    simp only [go_sem, seval, reduceCtorEq, y0]
    refine WK.joinB [3, 8, 11, 0] [10] [.str (tx (brk (lbr k kg) (wrS ns g)))] (((Sto.none.add (AObj.box [AV.int IntKind.i64 ↑k, AV.int IntKind.i64 v, AV.list false (encFs [g, h])])).add (AObj.box [AV.int IntKind.i64 ↑k, AV.str (tx (signsL.getD k [])), AV.int IntKind.i64 (strengthL.getD k 0), AV.bool (rightL.getD k false)])).add (AObj.box [AV.int IntKind.i64 ((ofT g.op).getD sg0).1, AV.str (tx ((ofT g.op).getD sg0).2.1), AV.int IntKind.i64 ((ofT g.op).getD sg0).2.2.1, AV.bool ((ofT g.op).getD sg0).2.2.2])) ?_ ?_
    · by_cases hag : arityL.getD kg 0 = 2
      · have e1 : ofT g.op = some ((kg : Int), signsL.getD kg [], strengthL.getD kg 0, rightL.getD kg false) := by rw [hkg, ofT_nat kg hkg14, if_pos hag]
        rw [e1, lbr_nat]
        cases p1 : decide (strengthL.getD kg 0 < strengthL.getD k 0) with
        | true =>
          have H := @p1
          refine autoA ?_
          repeat' (first | (refine WK.draw (ops := #[_, _, _, _, _, _, _, _, _, _, _, _, _, _]) [dq 0 0, dq 0 0, dq 0 0, dq 0 0, dq 0 0, dm, dq 0 0, dq 0 0, dq 1 0, dq 1 0, dq 1 0, dm, dq 0 0, dq 0 0] mixed (by kernel_rfl) ?_; refine autoA ?_))
          try exact trivial
          (try refine ⟨by simp only [List.length_append, List.length_cons, List.length_nil]; omega, ?_⟩)
          (try refine autoA ?_)
          try exact (AV.le.refl _)
        | false =>
          cases p2 : (strengthL.getD kg 0 == strengthL.getD k 0) with
          | true =>
            cases p3 : rightL.getD k false with
            | true =>
              have H := And.intro @p1 (And.intro @p2 @p3)
              refine autoA ?_
              repeat' (first | (refine WK.draw (ops := #[_, _, _, _, _, _, _, _, _, _, _, _, _, _]) [dq 0 0, dq 0 0, dq 0 0, dq 0 0, dq 0 0, dm, dq 0 0, dq 0 0, dq 1 0, dq 1 0, dq 1 0, dm, dq 0 0, dq 0 0] mixed (by kernel_rfl) ?_; refine autoA ?_))
              try exact trivial
              (try refine ⟨by simp only [List.length_append, List.length_cons, List.length_nil]; omega, ?_⟩)
              (try refine autoA ?_)
              try exact (AV.le.refl _)
            | false =>
              have H := And.intro @p1 (And.intro @p2 @p3)
              refine autoA ?_
              repeat' (first | (refine WK.draw (ops := #[_, _, _, _, _, _, _, _, _, _, _, _, _, _]) [dq 0 0, dq 0 0, dq 0 0, dq 0 0, dq 0 0, dm, dq 0 0, dq 0 0, dq 1 0, dq 1 0, dq 1 0, dm, dq 0 0, dq 0 0] mixed (by kernel_rfl) ?_; refine autoA ?_))
              try exact trivial
              (try refine ⟨by simp only [List.length_append, List.length_cons, List.length_nil]; omega, ?_⟩)
              (try refine autoA ?_)
              try exact (AV.le.refl _)
          | false =>
            have H := And.intro @p1 @p2
            refine autoA ?_
            repeat' (first | (refine WK.draw (ops := #[_, _, _, _, _, _, _, _, _, _, _, _, _, _]) [dq 0 0, dq 0 0, dq 0 0, dq 0 0, dq 0 0, dm, dq 0 0, dq 0 0, dq 1 0, dq 1 0, dq 1 0, dm, dq 0 0, dq 0 0] mixed (by kernel_rfl) ?_; refine autoA ?_))
            try exact trivial
            (try refine ⟨by simp only [List.length_append, List.length_cons, List.length_nil]; omega, ?_⟩)
            (try refine autoA ?_)
            try exact (AV.le.refl _)
      · have e1 : ofT g.op = none := by rw [hkg, ofT_nat kg hkg14, if_neg hag]
        have e2 : lbr k kg = false := by
          have := st_un kg hkg14 hag k hk ha
          rw [lbr_nat, decide_eq_false (by omega), beq_eq_false_iff_ne.2 (by omega)]; rfl
        rw [e1, e2]
        have e3 : (none : Option Sg).isSome = false := rfl
        have H := @e3
        refine autoA ?_
        repeat' (first | (refine WK.draw (ops := #[_, _, _, _, _, _, _, _, _, _, _, _, _, _]) [dq 0 0, dq 0 0, dq 0 0, dq 0 0, dq 0 0, dm, dq 0 0, dq 0 0, dq 1 0, dq 1 0, dq 1 0, dm, dq 0 0, dq 0 0] mixed (by kernel_rfl) ?_; refine autoA ?_))
        try exact trivial
        (try refine ⟨by simp only [List.length_append, List.length_cons, List.length_nil]; omega, ?_⟩)
        (try refine autoA ?_)
        try exact (AV.le.refl _)
    clear hog
    have H := trivial
    refine autoN ?_
    repeat' (first | (refine WK.draw (ops := #[_, _, _, _, _, _, _, _, _, _, _, _, _, _]) [dq 0 0, dq 0 0, dq 0 0, dq 0 0, dq 0 0, dm, dq 0 0, dq 0 0, dq 1 0, dq 1 0, dq 1 0, dm, dq 0 0, dq 0 0] mixed (by kernel_rfl) ?_; refine autoN ?_))
    try exact trivial
    have hoh : Ctr (C gl) 169 [.int .i64 h.op] True (.tup [.agg [.int .i64 ((ofT h.op).getD sg0).1, .str (tx ((ofT h.op).getD sg0).2.1), .int .i64 ((ofT h.op).getD sg0).2.2.1, .bool ((ofT h.op).getD sg0).2.2.2], .bool (ofT h.op).isSome]) := ⟨fun _ => of_ok h.op⟩
    refine callK_ofN ?_
    simp only [go_sem, seval, reduceCtorEq, y0]
    refine callN_auto trivial ?_
    simp only [go_sem, seval, reduceCtorEq, y0]
    refine WK.joinB [3, 8, 10] [11] [.str (tx (brk (rbr k kh) (wrS ns h)))] ((((Sto.none.add (AObj.box [AV.int IntKind.i64 ↑k, AV.int IntKind.i64 v, AV.list false (encFs [g, h])])).add (AObj.box [AV.int IntKind.i64 ↑k, AV.str (tx (signsL.getD k [])), AV.int IntKind.i64 (strengthL.getD k 0), AV.bool (rightL.getD k false)])).add (AObj.box [AV.int IntKind.i64 ((ofT g.op).getD sg0).1, AV.str (tx ((ofT g.op).getD sg0).2.1), AV.int IntKind.i64 ((ofT g.op).getD sg0).2.2.1, AV.bool ((ofT g.op).getD sg0).2.2.2])).add (AObj.box [AV.int IntKind.i64 ((ofT h.op).getD sg0).1, AV.str (tx ((ofT h.op).getD sg0).2.1), AV.int IntKind.i64 ((ofT h.op).getD sg0).2.2.1, AV.bool ((ofT h.op).getD sg0).2.2.2])) ?_ ?_
    · by_cases hag : arityL.getD kh 0 = 2
      · have e1 : ofT h.op = some ((kh : Int), signsL.getD kh [], strengthL.getD kh 0, rightL.getD kh false) := by rw [hkh, ofT_nat kh hkh14, if_pos hag]
        rw [e1, rbr_nat]
        cases p1 : decide (strengthL.getD kh 0 < strengthL.getD k 0) with
        | true =>
          have H := @p1
          refine autoA ?_
          repeat' (first | (refine WK.draw (ops := #[_, _, _, _, _, _, _, _, _, _, _, _, _, _]) [dq 0 0, dq 0 0, dq 0 0, dq 0 0, dq 0 0, dm, dq 0 0, dq 0 0, dq 1 0, dq 1 0, dq 1 0, dm, dq 0 0, dq 0 0] mixed (by kernel_rfl) ?_; refine autoA ?_))
          try exact trivial
          (try refine ⟨by simp only [List.length_append, List.length_cons, List.length_nil]; omega, ?_⟩)
          (try refine autoA ?_)
          try exact (AV.le.refl _)
        | false =>
          cases p2 : (strengthL.getD kh 0 == strengthL.getD k 0) with
          | true =>
            cases p3 : rightL.getD k false with
            | true =>
              have H := And.intro @p1 (And.intro @p2 @p3)
              refine autoA ?_
              repeat' (first | (refine WK.draw (ops := #[_, _, _, _, _, _, _, _, _, _, _, _, _, _]) [dq 0 0, dq 0 0, dq 0 0, dq 0 0, dq 0 0, dm, dq 0 0, dq 0 0, dq 1 0, dq 1 0, dq 1 0, dm, dq 0 0, dq 0 0] mixed (by kernel_rfl) ?_; refine autoA ?_))
              try exact trivial
              (try refine ⟨by simp only [List.length_append, List.length_cons, List.length_nil]; omega, ?_⟩)
              (try refine autoA ?_)
              try exact (AV.le.refl _)
            | false =>
              have H := And.intro @p1 (And.intro @p2 @p3)
              refine autoA ?_
              repeat' (first | (refine WK.draw (ops := #[_, _, _, _, _, _, _, _, _, _, _, _, _, _]) [dq 0 0, dq 0 0, dq 0 0, dq 0 0, dq 0 0, dm, dq 0 0, dq 0 0, dq 1 0, dq 1 0, dq 1 0, dm, dq 0 0, dq 0 0] mixed (by kernel_rfl) ?_; refine autoA ?_))
              try exact trivial
              (try refine ⟨by simp only [List.length_append, List.length_cons, List.length_nil]; omega, ?_⟩)
              (try refine autoA ?_)
              try exact (AV.le.refl _)
          | false =>
            have H := And.intro @p1 @p2
            refine autoA ?_
            repeat' (first | (refine WK.draw (ops := #[_, _, _, _, _, _, _, _, _, _, _, _, _, _]) [dq 0 0, dq 0 0, dq 0 0, dq 0 0, dq 0 0, dm, dq 0 0, dq 0 0, dq 1 0, dq 1 0, dq 1 0, dm, dq 0 0, dq 0 0] mixed (by kernel_rfl) ?_; refine autoA ?_))
            try exact trivial
            (try refine ⟨by simp only [List.length_append, List.length_cons, List.length_nil]; omega, ?_⟩)
            (try refine autoA ?_)
            try exact (AV.le.refl _)
      · have e1 : ofT h.op = none := by rw [hkh, ofT_nat kh hkh14, if_neg hag]
        have e2 : rbr k kh = false := by
          have := st_un kh hkh14 hag k hk ha
          rw [rbr_nat, decide_eq_false (by omega), beq_eq_false_iff_ne.2 (by omega)]; rfl
        rw [e1, e2]
        have e3 : (none : Option Sg).isSome = false := rfl
        have H := @e3
        refine autoA ?_
        repeat' (first | (refine WK.draw (ops := #[_, _, _, _, _, _, _, _, _, _, _, _, _, _]) [dq 0 0, dq 0 0, dq 0 0, dq 0 0, dq 0 0, dm, dq 0 0, dq 0 0, dq 1 0, dq 1 0, dq 1 0, dm, dq 0 0, dq 0 0] mixed (by kernel_rfl) ?_; refine autoA ?_))
        try exact trivial
        (try refine ⟨by simp only [List.length_append, List.length_cons, List.length_nil]; omega, ?_⟩)
        (try refine autoA ?_)
        try exact (AV.le.refl _)
    have H := trivial
    refine autoA ?_
    repeat' (first | (refine WK.draw (ops := #[_, _, _, _, _, _, _, _, _, _, _, _, _, _]) [dq 0 0, dq 0 0, dq 0 0, dq 0 0, dq 0 0, dm, dq 0 0, dq 0 0, dq 1 0, dq 1 0, dq 1 0, dm, dq 0 0, dq 0 0] mixed (by kernel_rfl) ?_; refine autoA ?_))
    try exact trivial
    have q1 : ∀ b t, (brk b t).length ≤ t.length + 2 := fun b t => by cases b <;> simp [brk]
    have q2 : ∀ k, k < 14 → (signsL.getD k []).length ≤ 5 := by decide
    have q3 := q1 (lbr k kg) (wrS ns g)
    have q4 := q1 (rbr k kh) (wrS ns h)
    have q5 := q2 k hk
    refine ⟨?_, ?_, ?_, ?_, ?_⟩
    · omega
    · simp only [List.length_append, List.length_cons, List.length_nil]; omega
    · simp only [List.length_append, List.length_cons, List.length_nil]; omega
    · simp only [List.length_append, List.length_cons, List.length_nil]; omega
    have H := trivial
    refine autoA ?_
    repeat' (first | (refine WK.draw (ops := #[_, _, _, _, _, _, _, _, _, _, _, _, _, _]) [dq 0 0, dq 0 0, dq 0 0, dq 0 0, dq 0 0, dm, dq 0 0, dq 0 0, dq 1 0, dq 1 0, dq 1 0, dm, dq 0 0, dq 0 0] mixed (by kernel_rfl) ?_; refine autoA ?_))
    try exact trivial
    refine ⟨?_, cut_none _⟩
    rw [show brk (lbr k kg) (wrS ns g) ++ [32] ++ signsL.getD k [] ++ [32] ++ brk (rbr k kh) (wrS ns h) = brk (lbr k kg) (wrS ns g) ++ 32 :: (signsL.getD k [] ++ [32]) ++ brk (rbr k kh) (wrS ns h) from by simp only [List.append_assoc, List.cons_append, List.nil_append]]
    exact .refl _
/-- What the reference writes is what the program writes. -/
theorem writeR_ok (ns : List Bs) (hn : namedS ns = 0) (f : Fm) : (∀ g ∈ nodesF f, okNode ns.length g = true) → (nodesF f).length ≤ 1000 → PCall (C gl) 103 [.list false (ns.map encT), encF f] (.str (tx (wrS ns f))) := by
  refine Fm.ind (P := fun f => (∀ g ∈ nodesF f, okNode ns.length g = true) → (nodesF f).length ≤ 1000 → PCall (C gl) 103 [.list false (ns.map encT), encF f] (.str (tx (wrS ns f)))) (fun o v l ih hok hsz => ?_) f
  refine writeR_k ns hn o v l hok hsz fun g => ⟨fun hg => ?_⟩
  refine ih g hg (fun x hx => hok x (by rw [nodesF]; exact List.mem_cons_of_mem _ (nodesL_sub hg hx))) ?_
  have : ∀ a b : List Fm, (nodesL (a ++ b)).length = (nodesL a).length + (nodesL b).length := fun a b => by
    induction a with
    | nil => simp [nodesL]
    | cons x a ih => simp only [List.cons_append, nodesL, List.length_append, ih]; omega
  rw [nodesF, List.length_cons] at hsz
  obtain ⟨a, b, rfl⟩ := List.append_of_mem hg
  rw [this, nodesL, List.length_append] at hsz; omega
theorem printR_ok (ns : List Bs) (f : Fm) (hf : Shrt f) (h : NsOK ns) : PCall (C gl) 40 [.list false (ns.map encT), encF f] (.tup [.str (tx (printS ns f).1), .int .i64 (printS ns f).2]) := by
  refine pcallX (callX_of b40 (by simp [Tryd.ntmps40]) ?_) (by simp only [AllCl, cl_encF, cl_list, and_true]; exact of_eq_true (clE_T _)) (by simp only [cl_tup, AllCl, cl_str, cl_int, and_true])
  refine W.of ?_
  rw [Tryd.ntmps40]
  simp only [toK, codeOf, Tryd.f40, go_sem, seval, reduceCtorEq]
  have hml : (ns.map encT).length = ns.length := List.length_map _
  have hnm : Ctr (C gl) 99 [.list false (ns.map encT)] True (.int .i64 (namedS ns)) := ⟨fun _ => namedR_ok ns h⟩
  have hva : Ctr (C gl) 58 [encF f, .int .i64 ns.length] True (.bool (validF f ns.length)) := ⟨fun _ => validR_ok f hf _⟩
  obtain ⟨o, v, l, rfl⟩ : ∃ o v l, f = .mk o v l := ⟨f.op, f.var, f.args, by cases f; rfl⟩
  cases hn : (namedS ns == 0) with
  | false =>
    have hn' : namedS ns ≠ 0 := by simpa using hn
    have e : printS ns (.mk o v l) = ([], namedS ns) := by rw [printS, if_pos hn']
    rw [e]
    have hb : (namedS ns != 0) = true := by rw [bne, hn]; rfl
    have H := And.intro @hml (And.intro @hb @hn)
    refine autoA ?_
    try exact trivial
    exact cut_none _
  | true =>
    have hn' : namedS ns = 0 := by simpa using hn
    cases hv : validF (.mk o v l) ns.length with
    | false =>
      have H := And.intro @hml (And.intro @hn @hv)
      refine autoA ?_
      try exact trivial
      have e : printS ns (.mk o v l) = ([], 1) := by rw [printS, if_neg (by simpa using hn'), hv]; rfl
      rw [e]
      exact ⟨.refl _, cut_none _⟩
    | true =>
      have hw : Ctr (C gl) 103 [.list false (ns.map encT), encF (.mk o v l)] True (.str (tx (wrS ns (.mk o v l)))) := ⟨fun _ => writeR_ok ns hn' (.mk o v l) ((validF_iff (.mk o v l) ns.length).1 hv).2.2.2 (by have : (nodesF (.mk o v l)).length ≤ 60 := ((validF_iff (.mk o v l) ns.length).1 hv).2.2.1; omega)⟩
      have H := And.intro @hml (And.intro @hn @hv)
      refine autoA ?_
      try exact trivial
      have e : printS ns (.mk o v l) = (wrS ns (.mk o v l), 0) := by rw [printS, if_neg (by simpa using hn'), hv]; rfl
      rw [e]
      exact ⟨.refl _, cut_none _⟩
end
end Go.Sx
