import Derived.Test.YtndchmmclfidgaaDoorLgAw
import Derived.Test.YtndchmmclfidgaaDoorGvA
import Derived.Test.YtndchmmclfidgaaDoorGxD
import Derived.Test.YtndchmmclfidgaaDoorGrC
set_option maxRecDepth 100000
set_option linter.unusedSimpArgs false
set_option linter.unusedVariables false
set_option linter.unnecessarySimpa false
namespace Go.Sx
open Go Go.Lg Go.Proofs
theorem b79 {gl : GL} : Body (C gl).P 79 Tryd.f79 (codeOf Tryd.f79) := ⟨Tryd.func79, by kernel_rfl, by kernel_rfl⟩
theorem b80 {gl : GL} : Body (C gl).P 80 Tryd.f80 (codeOf Tryd.f80) := ⟨Tryd.func80, by kernel_rfl, by kernel_rfl⟩
theorem b22 {gl : GL} : Body (C gl).P 22 Tryd.f22 (codeOf Tryd.f22) := ⟨Tryd.func22, by kernel_rfl, by kernel_rfl⟩
def tempF (o : Int) : Bool := decide (8 ≤ o) && decide (o ≤ 13)
mutual
def plainR : Fm → Bool
  | .mk o _ l => plainRL l && !tempF o
def plainRL : List Fm → Bool
  | [] => true
  | f :: l => plainR f && plainRL l
end
theorem plainRL_all : ∀ l : List Fm, plainRL l = l.all plainR
  | [] => rfl
  | f :: l => by simp [plainRL, plainRL_all l]
mutual
def stepR (n : Int) : Fm → Bool
  | .mk o _ l => if o = 8 then (match l with | g :: _ => decide (g.op = 2) && decide (g.var < n) | [] => false) else stepRL n l && !tempF o
def stepRL (n : Int) : List Fm → Bool
  | [] => true
  | f :: l => stepR n f && stepRL n l
end
theorem stepRL_all (n : Int) : ∀ l : List Fm, stepRL n l = l.all (stepR n)
  | [] => rfl
  | f :: l => by simp [stepRL, stepRL_all n l]
theorem all_false {A : Type} {p : A → Bool} {l : List A} {i : Nat} (h : i < l.length) (hp : p l[i] = false) : l.all p = false :=
  Bool.eq_false_iff.2 fun hk => by
    have := List.all_eq_true.1 hk _ (List.getElem_mem h)
    rw [hp] at this; cases this
theorem take_step {A : Type} {p : A → Prop} {l : List A} {i : Nat} (h : i < l.length) (hI : ∀ g ∈ l.take i, p g) (hp : p l[i]) : ∀ g ∈ l.take (i + 1), p g := by
  intro g hg
  rw [← List.take_append_getElem h, List.mem_append, List.mem_singleton] at hg
  rcases hg with hg | rfl
  · exact hI g hg
  · exact hp
section
variable {gl : GL}
theorem plainR_k (o v : Int) (l : List Fm) (hlen : l.length < 9223372036854775807) (ih : ∀ g ∈ l, PCall (C gl) 79 [encF g] (.bool (plainR g))) :
    PCall (C gl) 79 [encF (.mk o v l)] (.bool (plainR (.mk o v l))) := by
  refine pcallX (callX_of b79 (by simp [Tryd.ntmps79]) ?_) (by simp only [AllCl, cl_encF, and_true]) (.bool _)
  refine W.of ?_
  rw [Tryd.ntmps79]
  simp only [toK, codeOf, Tryd.f79, go_sem, seval, reduceCtorEq]
  have H := And.intro @encFs_len @encF_eq
  refine goB ?_
  first | exact trivial | clear H | skip
  refine WK.rangeI (l.length) [1, 6] [] (fun i => []) (fun i => Sto.none.add (.box [.int .i64 o, .int .i64 v, .list false (encFs l)])) (fun i => ∀ g ∈ l.take i, plainR g = true) (by simp) (by omega) (by decide) (by simp only [go_sem, seval, reduceCtorEq, encFs_len]) (by simp only [go_sem, seval, reduceCtorEq, encFs_len]) (by simp only [go_sem, seval, reduceCtorEq, encFs_len, List.take_zero]) (by first | rfl | (simp only [go_sem, seval, reduceCtorEq, encFs_len]; done) | (refine Sto.ext' (by simp only [go_sem, seval, reduceCtorEq, encFs_len]) (fun i => ?_); simp only [go_sem, seval, reduceCtorEq, encFs_len]; repeat' split; all_goals (first | rfl | omega | simp_all))) ?_ ?_
  · intro i hi hI
    simp only [go_sem, seval, reduceCtorEq, encFs_len]
    have H := And.intro @encFs_len (And.intro @encFs_get (And.intro @hi @encF_eq))
    refine goB ?_
    first | exact trivial | clear H | skip
    refine callK_pureL (ih l[i] (List.getElem_mem hi)) rfl ?_ ?_ ?_ <;> simp only [go_sem, seval, reduceCtorEq, encFs_len, encF_eq]
    have H := @encFs_len
    refine goB ?_
    first | exact trivial | clear H | skip
    refine WK.cond _ (by simp only [go_sem, seval, reduceCtorEq, encFs_len]; rfl) (fun h2 => ?_) (fun h2 => ?_)
    · have h2' : plainR l[i] = false := by simpa using h2
      have H := @encFs_len
      refine goB ?_
      first | exact trivial | clear H | skip
      refine ⟨by simp [plainR, plainRL_all, all_false hi h2'], ?_⟩
      have H := @encFs_len
      exact cutA
    · have h2' : plainR l[i] = true := by simpa using h2
      have H := @encFs_len
      refine goB ?_
      first | exact trivial | clear H | skip
      refine ⟨take_step hi hI h2', ?_⟩
      have H := @encFs_len
      exact cutA
  · intro hI
    rw [List.take_length] at hI
    simp only [go_sem, seval, reduceCtorEq, encFs_len]
    have H := @encFs_len
    refine goB ?_
    first | exact trivial | clear H | skip
    refine callK_pureL (temporalR_ok (gl := gl) o) rfl ?_ ?_ ?_ <;> simp only [go_sem, seval, reduceCtorEq, encFs_len]
    have H := @encFs_len
    refine goB ?_
    first | exact trivial | clear H | skip
    have e : plainRL l = true := by rw [plainRL_all]; exact List.all_eq_true.2 hI
    refine ⟨by simp [plainR, tempF, e], ?_⟩
    have H := @encFs_len
    exact cutA
theorem plainR_ok (f : Fm) : Shrt f → PCall (C gl) 79 [encF f] (.bool (plainR f)) := by
  induction f using Fm.ind with
  | h o v l ih =>
    intro hs
    simp only [Shrt] at hs
    exact plainR_k o v l hs.1 fun g hg => ih g hg (hs.2.mem g hg)
theorem stepR_k (n o v : Int) (l : List Fm) (hlen : l.length < 9223372036854775807) (h8 : o = 8 → 0 < l.length) (ih : ∀ g ∈ l, PCall (C gl) 80 [encF g, .int .i64 n] (.bool (stepR n g))) :
    PCall (C gl) 80 [encF (.mk o v l), .int .i64 n] (.bool (stepR n (.mk o v l))) := by
  refine pcallX (callX_of b80 (by simp [Tryd.ntmps80]) ?_) (by simp only [AllCl, cl_encF, cl_int, and_true]) (.bool _)
  refine W.of ?_
  rw [Tryd.ntmps80]
  simp only [toK, codeOf, Tryd.f80, go_sem, seval, reduceCtorEq]
  have H := And.intro @encFs_len @encF_eq
  refine goB ?_
  first | exact trivial | clear H | skip
  refine WK.cond _ (by simp only [go_sem, seval, reduceCtorEq, encFs_len]; rfl) (fun h => ?_) (fun h => ?_)
  · have h' : o = 8 := by simpa using h
    obtain ⟨g, l', rfl⟩ : ∃ g l', l = g :: l' := by
      cases l with
      | nil => have := h8 h'; simp at this
      | cons g l' => exact ⟨g, l', rfl⟩
    by_cases h2 : g.op = 2
    · have h2' : (g.op == 2) = true := by simpa using h2
      have H := And.intro @encFs_len (And.intro @encFs_cs (And.intro @encF_eq @h2'))
      refine goB ?_
      first | exact trivial | clear H | skip
      refine ⟨by simp [stepR, h', h2], ?_⟩
      have H := @encFs_len
      exact cutA
    · have h2' : (g.op == 2) = false := by simpa using h2
      have H := And.intro @encFs_len (And.intro @encFs_cs (And.intro @encF_eq @h2'))
      refine goB ?_
      first | exact trivial | clear H | skip
      refine ⟨by simp [stepR, h', h2], ?_⟩
      have H := @encFs_len
      exact cutA
  · have h' : ¬ o = 8 := by simpa using h
    have H := @encFs_len
    refine goB ?_
    first | exact trivial | clear H | skip
    refine WK.rangeI (l.length) [1, 2, 26] [] (fun i => []) (fun i => Sto.none.add (.box [.int .i64 o, .int .i64 v, .list false (encFs l)])) (fun i => ∀ g ∈ l.take i, stepR n g = true) (by simp) (by omega) (by decide) (by simp only [go_sem, seval, reduceCtorEq, encFs_len]) (by simp only [go_sem, seval, reduceCtorEq, encFs_len]) (by simp only [go_sem, seval, reduceCtorEq, encFs_len, List.take_zero]) (by first | rfl | (simp only [go_sem, seval, reduceCtorEq, encFs_len]; done) | (refine Sto.ext' (by simp only [go_sem, seval, reduceCtorEq, encFs_len]) (fun i => ?_); simp only [go_sem, seval, reduceCtorEq, encFs_len]; repeat' split; all_goals (first | rfl | omega | simp_all))) ?_ ?_
    · intro i hi hI
      simp only [go_sem, seval, reduceCtorEq, encFs_len]
      have H := And.intro @encFs_len (And.intro @encFs_get (And.intro @hi @encF_eq))
      refine goB ?_
      first | exact trivial | clear H | skip
      refine callK_pureL (ih l[i] (List.getElem_mem hi)) rfl ?_ ?_ ?_ <;> simp only [go_sem, seval, reduceCtorEq, encFs_len, encF_eq]
      have H := @encFs_len
      refine goB ?_
      first | exact trivial | clear H | skip
      refine WK.cond _ (by simp only [go_sem, seval, reduceCtorEq, encFs_len]; rfl) (fun h2 => ?_) (fun h2 => ?_)
      · have h2' : stepR n l[i] = false := by simpa using h2
        have H := @encFs_len
        refine goB ?_
        first | exact trivial | clear H | skip
        refine ⟨by simp [stepR, h', stepRL_all, all_false hi h2'], ?_⟩
        have H := @encFs_len
        exact cutA
      · have h2' : stepR n l[i] = true := by simpa using h2
        have H := @encFs_len
        refine goB ?_
        first | exact trivial | clear H | skip
        refine ⟨take_step hi hI h2', ?_⟩
        have H := @encFs_len
        exact cutA
    · intro hI
      rw [List.take_length] at hI
      simp only [go_sem, seval, reduceCtorEq, encFs_len]
      have H := @encFs_len
      refine goB ?_
      first | exact trivial | clear H | skip
      refine callK_pureL (temporalR_ok (gl := gl) o) rfl ?_ ?_ ?_ <;> simp only [go_sem, seval, reduceCtorEq, encFs_len]
      have H := @encFs_len
      refine goB ?_
      first | exact trivial | clear H | skip
      have e : stepRL n l = true := by rw [stepRL_all]; exact List.all_eq_true.2 hI
      refine ⟨by simp [stepR, tempF, e, h'], ?_⟩
      have H := @encFs_len
      exact cutA
theorem stepR_ok (n : Int) (f : Fm) : Shrt f → (∀ g ∈ nodesF f, g.op = 8 → 0 < g.args.length) → PCall (C gl) 80 [encF f, .int .i64 n] (.bool (stepR n f)) := by
  induction f using Fm.ind with
  | h o v l ih =>
    intro hs hw
    simp only [Shrt] at hs
    simp only [nodesF, List.mem_cons, forall_eq_or_imp] at hw
    refine stepR_k n o v l hs.1 hw.1 fun g hg => ih g hg (hs.2.mem g hg) fun k hk => hw.2 k ?_
    clear hw ih hs
    induction l with
    | nil => cases hg
    | cons x l ihl =>
      simp only [nodesL, List.mem_append]
      rcases List.mem_cons.1 hg with rfl | hg
      · exact .inl hk
      · exact .inr (ihl hg)
def rngC (c : Ct) : Bool := decide (0 ≤ c.inn) && decide (c.inn ≤ 3) && decide (0 ≤ c.out) && decide (c.out ≤ 3) && decide (c.je.length + c.js.length ≤ 12)
def rvalC (c : Ct) : Bool := rngC c && (validF c.ie c.inn && plainR c.ie) && ((c.is :: (c.je ++ c.js)).all fun f => validF f (c.inn + c.out) && plainR f) &&
  (validF c.se (c.inn + c.out) && validF c.ss (c.inn + c.out) && stepR c.inn c.se && stepR (c.inn + c.out) c.ss)
theorem valid_next {f : Fm} {n : Int} (h : validF f n = true) : ∀ g ∈ nodesF f, g.op = 8 → 0 < g.args.length := by
  intro g hg h8
  have := (validF_iff f n).1 h
  have := this.2.2.2 g hg
  simp only [okNode, Bool.and_eq_true, decide_eq_true_eq, h8] at this
  have h1 := this.1.2
  have h2 : arityL.getD (Int.toNat 8) 0 = 1 := rfl
  omega
theorem rvalid_ok (c : Ct) (hs : ShrtC c) : PCall (C gl) 22 [encC c] (.bool (rvalC c)) := by
  refine pcallX (callX_of b22 (by simp [Tryd.ntmps22]) ?_) (by simp only [AllCl, cl_encC, and_true]) (.bool _)
  obtain ⟨sie, sis, sse, sss, sje, sjs, sjel, sjsl⟩ := hs
  have hw : IntKind.i64.wrap ((c.je.length : Int) + (c.js.length : Int)) = (c.je.length : Int) + (c.js.length : Int) := wrap_lt (by omega) (by omega)
  refine W.of ?_
  rw [Tryd.ntmps22]
  simp only [toK, codeOf, Tryd.f22, go_sem, seval, reduceCtorEq]
  refine WK.seq (WK.reg ?_)
  simp only [go_sem, seval, reduceCtorEq, encFs_len, encC]
  refine WK.seq (WK.seq ?_)
  refine WK.joinB [1] [33] [.bool (!rngC c)] (Sto.none.add (.box (ctCells c))) ?_ ?_
  · by_cases h1 : c.inn < 0
    · have e : rngC c = false := by unfold rngC; simp; omega
      have H := And.intro @encFs_len (And.intro @h1 (And.intro @e @ctCells.eq_1))
      refine goB ?_
      first | exact trivial | clear H | skip
    · by_cases h2 : c.inn > 3
      · have e : rngC c = false := by unfold rngC; simp; omega
        have H := And.intro @encFs_len (And.intro @h1 (And.intro @h2 (And.intro @e @ctCells.eq_1)))
        refine goB ?_
        first | exact trivial | clear H | skip
      · by_cases h3 : c.out < 0
        · have e : rngC c = false := by unfold rngC; simp; omega
          have H := And.intro @encFs_len (And.intro @h1 (And.intro @h2 (And.intro @h3 (And.intro @e @ctCells.eq_1))))
          refine goB ?_
          first | exact trivial | clear H | skip
        · by_cases h4 : c.out > 3
          · have e : rngC c = false := by unfold rngC; simp; omega
            have H := And.intro @encFs_len (And.intro @h1 (And.intro @h2 (And.intro @h3 (And.intro @h4 (And.intro @e @ctCells.eq_1)))))
            refine goB ?_
            first | exact trivial | clear H | skip
          · by_cases h5 : (c.je.length : Int) + (c.js.length : Int) > 12
            · have e : rngC c = false := by unfold rngC; simp; omega
              have H := And.intro @encFs_len (And.intro @h1 (And.intro @h2 (And.intro @h3 (And.intro @h4 (And.intro @h5 (And.intro @e (And.intro @hw @ctCells.eq_1)))))))
              refine goB ?_
              first | exact trivial | clear H | skip
            · have e : rngC c = true := by unfold rngC; simp; omega
              have H := And.intro @encFs_len (And.intro @h1 (And.intro @h2 (And.intro @h3 (And.intro @h4 (And.intro @h5 (And.intro @e (And.intro @hw @ctCells.eq_1)))))))
              refine goB ?_
              first | exact trivial | clear H | skip
  simp only [go_sem, seval, reduceCtorEq, encFs_len]
  cases hr : rngC c with
  | false =>
    have H := And.intro @encFs_len (And.intro @rvalC.eq_1 @hr)
    refine goB ?_
    first | exact trivial | clear H | skip
    have H := @encFs_len
    exact cutA
  | true =>
  have hr' := hr
  simp only [rngC, Bool.and_eq_true, decide_eq_true_eq] at hr'
  have hwn : IntKind.i64.wrap (c.inn + c.out) = c.inn + c.out := wrap_lt (by omega) (by omega)
  have H := And.intro @encFs_len (And.intro @hwn @ctCells.eq_1)
  refine goB ?_
  first | exact trivial | clear H | skip
  refine callK_pureL (validR_ok (gl := gl) c.ie sie c.inn) rfl ?_ ?_ ?_ <;> simp only [go_sem, seval, reduceCtorEq, encFs_len, hwn, encF_eq]
  cases hv : validF c.ie c.inn with
  | false =>
    have H := And.intro @encFs_len (And.intro @hwn (And.intro @rvalC.eq_1 @hv))
    refine goB ?_
    first | exact trivial | clear H | skip
    have H := And.intro @encFs_len @hwn
    exact cutA
  | true =>
  have H := And.intro @encFs_len @hwn
  refine goB ?_
  first | exact trivial | clear H | skip
  refine callK_pureL (plainR_ok (gl := gl) c.ie sie) rfl ?_ ?_ ?_ <;> simp only [go_sem, seval, reduceCtorEq, encFs_len, hwn, encF_eq]
  cases hp : plainR c.ie with
  | false =>
    have H := And.intro @encFs_len (And.intro @hwn (And.intro @rvalC.eq_1 @hp))
    refine goB ?_
    first | exact trivial | clear H | skip
    have H := And.intro @encFs_len @hwn
    exact cutA
  | true =>
  have H := And.intro @encFs_len (And.intro @hwn @ctCells.eq_1)
  refine goB ?_
  first | exact trivial | clear H | skip
  have hL : (AV.agg [.int .i64 c.is.op, .int .i64 c.is.var, .list false (encFs c.is.args)] :: (encFs c.je ++ encFs c.js)) = encFs (c.is :: (c.je ++ c.js)) := by
    rw [encFs, encFs_app, encF_eq]
  have hLl : (c.is :: (c.je ++ c.js)).length ≤ 13 := by simp only [List.length_cons, List.length_append]; omega
  refine WK.draw [⟨false, 0, 0⟩, ⟨false, 0, 0⟩, ⟨false, 0, 0⟩, ⟨false, 0, 0⟩, ⟨false, 0, 0⟩, ⟨true, 0, 0⟩, ⟨false, 0, 0⟩, ⟨false, 1, 0⟩, ⟨true, 0, 0⟩, ⟨false, 0, 0⟩, ⟨false, 0, 0⟩] mixed (by kernel_rfl) ?_
  simp only [go_sem, seval, reduceCtorEq, encFs_len, hwn, hL]
  refine appD_full (f := _) (by simp only [go_sem, seval, reduceCtorEq, encFs_len, hwn, hL]; rfl) (by simp only [go_sem, seval, reduceCtorEq, encFs_len, hwn, hL]; rfl)  ?_ (by simp only [go_sem, seval, reduceCtorEq, encFs_len, hwn, hL]; rfl) (by simp only [go_sem, seval, reduceCtorEq, encFs_len, hwn, hL]) ?_ (by kernel_rfl) (by simp only [go_sem, seval, reduceCtorEq, encFs_len, hwn, hL, List.length_map, List.length_take, List.length_range, List.length_append, List.length_cons, List.length_nil]; first | done | omega) (by simp only [go_sem, seval, reduceCtorEq, encFs_len, hwn, hL, List.length_map, List.length_take, List.length_range, List.length_append, List.length_cons, List.length_nil]; first | done | omega) ?_
  all_goals (try simp only [go_sem, seval, reduceCtorEq, encFs_len, hwn, hL])
  all_goals (try (refine okes_map fun _ => ?_; simp only [go_sem, seval, reduceCtorEq, encFs_len, hwn, hL]; done))
  have H := And.intro @encFs_len (And.intro @hwn @hL)
  refine appBd ?_
  first | exact trivial | clear H | skip
  have sL : ∀ f ∈ c.is :: (c.je ++ c.js), Shrt f := by
    intro f hf
    rcases List.mem_cons.1 hf with rfl | hf
    · exact sis
    · rcases List.mem_append.1 hf with hf | hf
      · exact sje.mem f hf
      · exact sjs.mem f hf
  have hA : (c.je ++ c.js).length + 1 = (c.is :: (c.je ++ c.js)).length := by simp only [List.length_cons]
  have hB : 1 + (c.je.length + c.js.length) = (c.is :: (c.je ++ c.js)).length := by simp only [List.length_cons, List.length_append]; omega
  generalize hLd : c.is :: (c.je ++ c.js) = L at *
  refine WK.rangeI (L.length) [1, 3, 59] [] (fun i => []) (fun i => (Sto.none.add (.box (ctCells c))).add (.tok 3 L.length)) (fun i => ∀ f ∈ L.take i, (validF f (c.inn + c.out) && plainR f) = true) (by simp) (by omega) (by decide) (by simp only [go_sem, seval, reduceCtorEq, encFs_len, hwn, hL, hA, hB]) (by simp only [go_sem, seval, reduceCtorEq, encFs_len, hwn, hL, hA, hB]) (by simp only [go_sem, seval, reduceCtorEq, encFs_len, hwn, hL, hA, hB, List.take_zero]) (by first | rfl | (simp only [go_sem, seval, reduceCtorEq, encFs_len, hwn, hL, hA, hB]; done) | (refine Sto.ext' (by simp only [go_sem, seval, reduceCtorEq, encFs_len, hwn, hL, hA, hB]) (fun i => ?_); simp only [go_sem, seval, reduceCtorEq, encFs_len, hwn, hL, hA, hB]; repeat' split; all_goals (first | rfl | omega | simp_all))) ?_ ?_
  · intro i hi hI
    simp only [go_sem, seval, reduceCtorEq, encFs_len, hwn, hL, hA, hB, ctCells]
    have H := And.intro @encFs_len (And.intro @hwn (And.intro @hL (And.intro @hA (And.intro @hB (And.intro @encFs_get (And.intro @hi @encF_eq))))))
    refine goB ?_
    first | exact trivial | clear H | skip
    refine callK_pureL (validR_ok (gl := gl) L[i] (sL _ (List.getElem_mem hi)) (c.inn + c.out)) rfl ?_ ?_ ?_ <;> simp only [go_sem, seval, reduceCtorEq, encFs_len, hwn, hL, hA, hB, encF_eq]
    cases hv2 : validF L[i] (c.inn + c.out) with
    | false =>
      have H := And.intro @encFs_len (And.intro @hwn (And.intro @hL (And.intro @hA @hB)))
      refine goB ?_
      first | exact trivial | clear H | skip
      have e : (L.all fun f => validF f (c.inn + c.out) && plainR f) = false := all_false hi (by simp [hv2])
      refine ⟨by simp [rvalC, hLd, e], ?_⟩
      have H := And.intro @encFs_len (And.intro @hwn (And.intro @hL (And.intro @hA @hB)))
      exact cutA
    | true =>
      have H := And.intro @encFs_len (And.intro @hwn (And.intro @hL (And.intro @hA (And.intro @hB @encF_eq))))
      refine goB ?_
      first | exact trivial | clear H | skip
      refine callK_pureL (plainR_ok (gl := gl) L[i] (sL _ (List.getElem_mem hi))) rfl ?_ ?_ ?_ <;> simp only [go_sem, seval, reduceCtorEq, encFs_len, hwn, hL, hA, hB, encF_eq]
      cases hp2 : plainR L[i] with
      | false =>
        have H := And.intro @encFs_len (And.intro @hwn (And.intro @hL (And.intro @hA @hB)))
        refine goB ?_
        first | exact trivial | clear H | skip
        have e : (L.all fun f => validF f (c.inn + c.out) && plainR f) = false := all_false hi (by simp [hp2])
        refine ⟨by simp [rvalC, hLd, e], ?_⟩
        have H := And.intro @encFs_len (And.intro @hwn (And.intro @hL (And.intro @hA @hB)))
        exact cutA
      | true =>
        have H := And.intro @encFs_len (And.intro @hwn (And.intro @hL (And.intro @hA (And.intro @hB @ctCells.eq_1))))
        refine goB ?_
        first | exact trivial | clear H | skip
        refine ⟨take_step hi hI (by simp [hv2, hp2]), ?_⟩
        have H := And.intro @encFs_len (And.intro @hwn (And.intro @hL (And.intro @hA @hB)))
        exact cutA
  · intro hI
    rw [List.take_length] at hI
    have e : (L.all fun f => validF f (c.inn + c.out) && plainR f) = true := List.all_eq_true.2 hI
    simp only [go_sem, seval, reduceCtorEq, encFs_len, hwn, hL, hA, hB, ctCells]
    have H := And.intro @encFs_len (And.intro @hwn (And.intro @hL (And.intro @hA (And.intro @hB @encF_eq))))
    refine goB ?_
    first | exact trivial | clear H | skip
    refine callK_pureL (validR_ok (gl := gl) c.se sse (c.inn + c.out)) rfl ?_ ?_ ?_ <;> simp only [go_sem, seval, reduceCtorEq, encFs_len, hwn, hL, hA, hB, encF_eq]
    cases h1 : validF c.se (c.inn + c.out) with
    | false =>
      have H := And.intro @encFs_len (And.intro @hwn (And.intro @hL (And.intro @hA (And.intro @hB (And.intro @rvalC.eq_1 @h1)))))
      refine goB ?_
      first | exact trivial | clear H | skip
      have H := And.intro @encFs_len (And.intro @hwn (And.intro @hL (And.intro @hA @hB)))
      exact cutA
    | true =>
    have H := And.intro @encFs_len (And.intro @hwn (And.intro @hL (And.intro @hA (And.intro @hB @encF_eq))))
    refine goB ?_
    first | exact trivial | clear H | skip
    refine callK_pureL (validR_ok (gl := gl) c.ss sss (c.inn + c.out)) rfl ?_ ?_ ?_ <;> simp only [go_sem, seval, reduceCtorEq, encFs_len, hwn, hL, hA, hB, encF_eq]
    cases h2 : validF c.ss (c.inn + c.out) with
    | false =>
      have H := And.intro @encFs_len (And.intro @hwn (And.intro @hL (And.intro @hA (And.intro @hB (And.intro @rvalC.eq_1 @h2)))))
      refine goB ?_
      first | exact trivial | clear H | skip
      have H := And.intro @encFs_len (And.intro @hwn (And.intro @hL (And.intro @hA @hB)))
      exact cutA
    | true =>
    have H := And.intro @encFs_len (And.intro @hwn (And.intro @hL (And.intro @hA (And.intro @hB @encF_eq))))
    refine goB ?_
    first | exact trivial | clear H | skip
    refine callK_pureL (stepR_ok (gl := gl) c.inn c.se sse (valid_next h1)) rfl ?_ ?_ ?_ <;> simp only [go_sem, seval, reduceCtorEq, encFs_len, hwn, hL, hA, hB, encF_eq]
    cases h3 : stepR c.inn c.se with
    | false =>
      have H := And.intro @encFs_len (And.intro @hwn (And.intro @hL (And.intro @hA (And.intro @hB (And.intro @rvalC.eq_1 @h3)))))
      refine goB ?_
      first | exact trivial | clear H | skip
      have H := And.intro @encFs_len (And.intro @hwn (And.intro @hL (And.intro @hA @hB)))
      exact cutA
    | true =>
    have H := And.intro @encFs_len (And.intro @hwn (And.intro @hL (And.intro @hA (And.intro @hB @encF_eq))))
    refine goB ?_
    first | exact trivial | clear H | skip
    refine callK_pureL (stepR_ok (gl := gl) (c.inn + c.out) c.ss sss (valid_next h2)) rfl ?_ ?_ ?_ <;> simp only [go_sem, seval, reduceCtorEq, encFs_len, hwn, hL, hA, hB, encF_eq]
    have H := And.intro @encFs_len (And.intro @hwn (And.intro @hL (And.intro @hA (And.intro @hB (And.intro @rvalC.eq_1 (And.intro @hr (And.intro @hv (And.intro @hp (And.intro @hLd (And.intro @e (And.intro @h1 (And.intro @h2 @h3))))))))))))
    refine goB ?_
    first | exact trivial | clear H | skip
    have H := And.intro @encFs_len (And.intro @hwn (And.intro @hL (And.intro @hA @hB)))
    exact cutA
end
end Go.Sx
