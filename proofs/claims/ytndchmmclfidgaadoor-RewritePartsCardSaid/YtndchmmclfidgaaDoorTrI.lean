import Derived.Test.YtndchmmclfidgaaDoorTrH
import Derived.Test.YtndchmmclfidgaaDoorTrD
import Derived.Test.YtndchmmclfidgaaDoorLgAv
set_option maxRecDepth 100000
set_option maxHeartbeats 4000000
set_option linter.unusedSimpArgs false
set_option linter.unusedVariables false
set_option linter.unnecessarySimpa false
namespace Go.Sx
open Go Go.Lg Go.Proofs
theorem b67 {gl : GL} : Body (C gl).P 67 Tryd.f67 (codeOf Tryd.f67) := ⟨Tryd.func67, by kernel_rfl, by kernel_rfl⟩
theorem b68 {gl : GL} : Body (C gl).P 68 Tryd.f68 (codeOf Tryd.f68) := ⟨Tryd.func68, by kernel_rfl, by kernel_rfl⟩
def sumN : List Fm → Nat
  | [] => 0
  | f :: l => nN f + sumN l
theorem sumN_append : ∀ a b : List Fm, sumN (a ++ b) = sumN a + sumN b
  | [], b => by simp [sumN]
  | f :: a, b => by rw [List.cons_append, sumN, sumN, sumN_append a b]; omega
theorem sumN_take {l : List Fm} {i : Nat} (h : i < l.length) : sumN (l.take (i + 1)) = sumN (l.take i) + nN l[i] := by
  rw [← List.take_append_getElem h, sumN_append]; simp [sumN]
theorem sumN_bd {k : Nat} : ∀ l : List Fm, (∀ g ∈ l, nN g ≤ k) → sumN l ≤ l.length * k
  | [], _ => Nat.zero_le _
  | f :: l, h => by
    have h1 := h f (by simp)
    have h2 := sumN_bd l fun g hg => h g (List.mem_cons_of_mem _ hg)
    rw [sumN, List.length_cons, Nat.succ_mul]; omega
theorem hand_len : ∀ (l : List Fm) (t : Nat), handT (fun t _ => t + 1) (fun _ => true) t l = t + l.length
  | [], t => rfl
  | x :: l, t => by rw [handT, if_pos rfl, hand_len l, List.length_cons]; omega
/-- What Parts answers. -/
def prtS (f : Fm) : List Fm × Int := if validF f 6 = true then (if sumN (prtF f) > 60 then [f] else prtF f, 0) else ([], 1)
section
variable {gl : GL}
theorem wParts_ok (har : gl.at' 0 = arityA) (f : Fm) (hs : Shrt f) : PCall (C gl) 67 [encF f] (.tup [.list false (encFs (prtS f).1), .int .i64 (prtS f).2]) := by
  refine pcallX (callX_of b67 (by simp [Tryd.ntmps67]) ?_) (by simp only [AllCl, cl_encF, and_true]) (by simp only [cl_tup, AllCl, cl_list, clE_encFs, cl_int, and_true])
  have hva : Ctr (C gl) 57 [encF f, .int .i64 6] True (.bool (validF f 6)) := ⟨fun _ => valid_ok har f hs 6⟩
  refine W.of ?_
  rw [Tryd.ntmps67]
  simp only [toK, codeOf, Tryd.f67, go_sem, seval, reduceCtorEq]
  cases hv : validF f 6 with
  | false =>
    have H := @hv
    refine autoA ?_
    try exact trivial
    first | exact cut_none _ | (refine finA (by first | (simp only [go_sem, seval, reduceCtorEq, prtS, hv, encFs, encF_fold, encF_fold0, Fm.eta, encFs_fold1, encFs_fold2, encFs_fold3]; done) | (simp only [go_sem, seval, reduceCtorEq, prtS, hv, encFs, encF_fold, encF_fold0, Fm.eta, encFs_fold1, encFs_fold2, encFs_fold3]; rfl)))
  | true =>
    have hA := (valid_both hv).2
    have hsh := (valid_both hv).1
    have hn : nN f ≤ 60 := ((validF_iff f 6).1 hv).2.2.1
    have hl := par_len f hA
    have hk := par_ok f hA
    have hbd : ∀ i, sumN ((prtF f).take i) ≤ 60 * 60 := fun i => by
      have h1 := sumN_bd (k := 60) ((prtF f).take i) fun g hg => by have := (hk g (List.mem_of_mem_take hg)).2; omega
      have h2 : ((prtF f).take i).length ≤ 60 := by rw [List.length_take]; omega
      have := Nat.mul_le_mul_right 60 h2
      omega
    have h60 := hbd (prtF f).length
    rw [List.take_length] at h60
    have H := And.intro @hv @encFs_len
    refine autoA ?_
    try exact trivial
    refine rangeA ((prtF f).length) [1, 4, 5, 13] [] (fun i => []) (fun i => (((Sto.none.add (.box [.int .i64 f.op, .int .i64 f.var, .list false (encFs f.args)])).add (.tok 3 (prtF f).length)).add (.box [.int .i64 (sumN ((prtF f).take i) : Int)]))) ?_ ?_
    · intro i hi
      have hx := hk _ (List.getElem_mem hi)
      have hb := hbd i
      have H := @hi
      refine autoA ?_
      try exact trivial
      refine WK.forNodesE 5 (prtF f)[i] (shrt_of_shor _ (shor_okA _ hx.1)) 4 (fun t : Nat => ((((Sto.none.add (.box [.int .i64 f.op, .int .i64 f.var, .list false (encFs f.args)])).add (.tok 3 (prtF f).length)).add (.box [.int .i64 ((sumN ((prtF f).take i) + t : Nat) : Int)])).add (.box [.int .i64 (prtF f)[i].op, .int .i64 (prtF f)[i].var, .list false (encFs (prtF f)[i].args)])).add (.box [.int .i64 (prtF f)[i].op, .int .i64 (prtF f)[i].var, .list false (encFs (prtF f)[i].args)])) (fun t _ => t + 1) (fun _ => true) 0 ?_ ?_ (fun t σ1 _ h _ => by cases h)
      · rintro L t x σ' ⟨p, q, hp, ht⟩ _ hn' hag hl
        have hlt : t < 60 := by
          rw [hand_len, Nat.zero_add] at ht
          have := congrArg List.length hp
          rw [List.length_append, List.length_cons] at this
          have := hx.2
          unfold nN at this hn
          omega
        have nz_0 : (0 = σ'.next) = False := by simp; omega
        have nx_0 : ∀ j, (0 = σ'.next + j) = False := fun j => by simp; omega
        have nz_1 : (1 = σ'.next) = False := by simp; omega
        have nx_1 : ∀ j, (1 = σ'.next + j) = False := fun j => by simp; omega
        have nz_2 : (2 = σ'.next) = False := by simp; omega
        have nx_2 : ∀ j, (2 = σ'.next + j) = False := fun j => by simp; omega
        have nz_3 : (3 = σ'.next) = False := by simp; omega
        have nx_3 : ∀ j, (3 = σ'.next + j) = False := fun j => by simp; omega
        have nz_4 : (4 = σ'.next) = False := by simp; omega
        have nx_4 : ∀ j, (4 = σ'.next + j) = False := fun j => by simp; omega
        have nz_5 : (5 = σ'.next) = False := by simp; omega
        have nx_5 : ∀ j, (5 = σ'.next + j) = False := fun j => by simp; omega
        simp only [toK, bindP, go_sem, seval, reduceCtorEq]
        have H := And.intro @nz_0 (And.intro @nx_0 (And.intro @nz_1 (And.intro @nx_1 (And.intro @nz_2 (And.intro @nx_2 (And.intro @nz_3 (And.intro @nx_3 (And.intro @nz_4 (And.intro @nx_4 (And.intro @nz_5 (And.intro @nx_5 (And.intro @hag @hl))))))))))))
        refine autoW ?_
        try exact trivial
        exact bodyA
      · rintro t σ1 rfl _ hn1 ha
        rw [hand_len, Nat.zero_add] at ha
        have e := sumN_take hi
        unfold nN at e
        simp only [go_sem, seval, reduceCtorEq]
        rw [e]
        exact cut_agree hn1 ha
    · rw [List.take_length]
      cases h7 : decide ((sumN (prtF f) : Int) > 60) with
      | true =>
        have h8 : (sumN (prtF f) > 60) = True := by have := of_decide_eq_true h7; simp; omega
        have H := @h7
        refine autoA ?_
        try exact trivial
        first | exact cut_none _ | (refine finA (by first | (simp only [go_sem, seval, reduceCtorEq, prtS, hv, h8, encFs, encF_fold, encF_fold0, Fm.eta, encFs_fold1, encFs_fold2, encFs_fold3]; done) | (simp only [go_sem, seval, reduceCtorEq, prtS, hv, h8, encFs, encF_fold, encF_fold0, Fm.eta, encFs_fold1, encFs_fold2, encFs_fold3]; rfl)))
      | false =>
        have h8 : (sumN (prtF f) > 60) = False := by have := of_decide_eq_false h7; simp; omega
        have H := @h7
        refine autoA ?_
        try exact trivial
        first | exact cut_none _ | (refine finA (by first | (simp only [go_sem, seval, reduceCtorEq, prtS, hv, h8, encF_fold, encF_fold0, Fm.eta, encFs_fold1, encFs_fold2, encFs_fold3]; done) | (simp only [go_sem, seval, reduceCtorEq, prtS, hv, h8, encF_fold, encF_fold0, Fm.eta, encFs_fold1, encFs_fold2, encFs_fold3]; rfl)))
theorem rParts_ok (f : Fm) (hs : Shrt f) : PCall (C gl) 68 [encF f] (.tup [.list false (encFs (prtS f).1), .int .i64 (prtS f).2]) := by
  refine pcallX (callX_of b68 (by simp [Tryd.ntmps68]) ?_) (by simp only [AllCl, cl_encF, and_true]) (by simp only [cl_tup, AllCl, cl_list, clE_encFs, cl_int, and_true])
  have hno : ∀ g, Ctr (C gl) 64 [encF g, .int .i64 1000] (okA g ∧ nN g ≤ 60) (.int .i64 (nN g : Int)) := fun g => ⟨fun h => by
    have := nodesR_ok (gl := gl) g (shrt_of_shor _ (shor_okA _ h.1)) 1000 (by omega) (by omega)
    rw [nodesR_min g 1000 (by omega)] at this
    have h2 := h.2
    unfold nN at h2 ⊢
    rw [show min ((nodesF g).length : Int) (1000 + 1) = ((nodesF g).length : Int) by omega] at this
    exact this⟩
  refine W.of ?_
  rw [Tryd.ntmps68]
  simp only [toK, codeOf, Tryd.f68, go_sem, seval, reduceCtorEq]
  cases hv : validF f 6 with
  | false =>
    have H := @hv
    refine autoA ?_
    try exact trivial
    first | exact cut_none _ | (refine finA (by first | (simp only [go_sem, seval, reduceCtorEq, prtS, hv, encFs, encF_fold, encF_fold0, Fm.eta, encFs_fold1, encFs_fold2, encFs_fold3]; done) | (simp only [go_sem, seval, reduceCtorEq, prtS, hv, encFs, encF_fold, encF_fold0, Fm.eta, encFs_fold1, encFs_fold2, encFs_fold3]; rfl)))
  | true =>
    have hA := (valid_both hv).2
    have hsh := (valid_both hv).1
    have hn : nN f ≤ 60 := ((validF_iff f 6).1 hv).2.2.1
    have hl := par_len f hA
    have hk := par_ok f hA
    have hbd : ∀ i, sumN ((prtF f).take i) ≤ 60 * 60 := fun i => by
      have h1 := sumN_bd (k := 60) ((prtF f).take i) fun g hg => by have := (hk g (List.mem_of_mem_take hg)).2; omega
      have h2 : ((prtF f).take i).length ≤ 60 := by rw [List.length_take]; omega
      have := Nat.mul_le_mul_right 60 h2
      omega
    have h60 := hbd (prtF f).length
    rw [List.take_length] at h60
    have hs0 : sumN [] = 0 := rfl
    have H := And.intro @hv (And.intro @encFs_len @hs0)
    refine autoA ?_
    try exact trivial
    refine rangeA ((prtF f).length) [1, 4, 13] [5] (fun i => [.int .i64 (sumN ((prtF f).take i) : Int)]) (fun i => ((Sto.none.add (.box [.int .i64 f.op, .int .i64 f.var, .list false (encFs f.args)])).add (.tok 3 (prtF f).length))) ?_ ?_
    · intro i hi
      have hx := hk _ (List.getElem_mem hi)
      have hb := hbd i
      have hz : okA (prtF f)[i] ∧ nN (prtF f)[i] ≤ 60 := ⟨hx.1, by omega⟩
      have e := sumN_take hi
      have e2 : ((sumN ((prtF f).take i) : Int) + (nN (prtF f)[i] : Int)) = (sumN ((prtF f).take (i + 1)) : Int) := by omega
      have e3 := hbd (i + 1)
      have H := And.intro @hi (And.intro @hz @e2)
      refine autoW ?_
      try exact trivial
      exact cutA
    · rw [List.take_length]
      cases h7 : decide ((sumN (prtF f) : Int) > 60) with
      | true =>
        have h8 : (sumN (prtF f) > 60) = True := by have := of_decide_eq_true h7; simp; omega
        have H := @h7
        refine autoA ?_
        try exact trivial
        first | exact cut_none _ | (refine finA (by first | (simp only [go_sem, seval, reduceCtorEq, prtS, hv, h8, encFs, encF_fold, encF_fold0, Fm.eta, encFs_fold1, encFs_fold2, encFs_fold3]; done) | (simp only [go_sem, seval, reduceCtorEq, prtS, hv, h8, encFs, encF_fold, encF_fold0, Fm.eta, encFs_fold1, encFs_fold2, encFs_fold3]; rfl)))
      | false =>
        have h8 : (sumN (prtF f) > 60) = False := by have := of_decide_eq_false h7; simp; omega
        have H := @h7
        refine autoA ?_
        try exact trivial
        first | exact cut_none _ | (refine finA (by first | (simp only [go_sem, seval, reduceCtorEq, prtS, hv, h8, encF_fold, encF_fold0, Fm.eta, encFs_fold1, encFs_fold2, encFs_fold3]; done) | (simp only [go_sem, seval, reduceCtorEq, prtS, hv, h8, encF_fold, encF_fold0, Fm.eta, encFs_fold1, encFs_fold2, encFs_fold3]; rfl)))
end
end Go.Sx
