import Derived.Test.YtlhdjjnjhpfgoaaDoorLgAw
import Derived.Test.YtlhdjjnjhpfgoaaDoorQTkF
import Derived.Test.YtlhdjjnjhpfgoaaDoorQFaZ
set_option maxRecDepth 100000
set_option linter.unusedSimpArgs false
set_option linter.unusedVariables false
set_option linter.unnecessarySimpa false
namespace Go.Sx
open Go Go.Lg Go.Proofs

theorem b22 {gl : GL} : Body (C gl).P 22 Tryd.f22 (codeOf Tryd.f22) := ⟨Tryd.func22, by kernel_rfl, by kernel_rfl⟩
/-! ## Negation normal forms -/
def fsel (yes : Bool) (a b : Int) : Int := if yes then a else b
def fz : Fm := .mk 0 0 []
def formC (yes : Bool) (o v : Int) (l P N : List Fm) : Fm :=
  let s0 := (if yes then P else N).getD 0 fz
  let s1 := (if yes then P else N).getD 1 fz
  if o = 0 then .mk (fsel yes 0 1) 0 []
  else if o = 1 then .mk (fsel yes 1 0) 0 []
  else if o = 2 then (if yes then .mk o v l else .mk 3 0 [.mk o v l])
  else if o = 3 then (if yes then N else P).getD 0 fz
  else if o = 8 then .mk 8 0 [s0]
  else if o = 9 then .mk (fsel yes 9 10) 0 [s0]
  else if o = 10 then .mk (fsel yes 10 9) 0 [s0]
  else if o = 4 then .mk (fsel yes 4 5) 0 [s0, s1]
  else if o = 5 then .mk (fsel yes 5 4) 0 [s0, s1]
  else if o = 6 then (if yes then .mk 5 0 [N.getD 0 fz, P.getD 1 fz] else .mk 4 0 [P.getD 0 fz, N.getD 1 fz])
  else if o = 7 then (if yes then .mk 5 0 [.mk 4 0 [P.getD 0 fz, P.getD 1 fz], .mk 4 0 [N.getD 0 fz, N.getD 1 fz]] else .mk 5 0 [.mk 4 0 [P.getD 0 fz, N.getD 1 fz], .mk 4 0 [N.getD 0 fz, P.getD 1 fz]])
  else if o = 11 then .mk (fsel yes 11 12) 0 [s0, s1]
  else if o = 12 then .mk (fsel yes 12 11) 0 [s0, s1]
  else if yes then .mk 13 0 [P.getD 0 fz, P.getD 1 fz] else .mk 11 0 [.mk 4 0 [P.getD 0 fz, N.getD 1 fz], .mk 4 0 [N.getD 0 fz, N.getD 1 fz]]
mutual
def formF (yes : Bool) : Fm → Fm
  | .mk o v l => formC yes o v l (formL true l) (formL false l)
def formL (yes : Bool) : List Fm → List Fm
  | [] => []
  | f :: l => formF yes f :: formL yes l
end
section
variable {gl : GL}
theorem copy_k (o v : Int) (l : List Fm) (hlen : l.length < 1000000) (ih : ∀ g ∈ l, PCall (C gl) 22 [encF g] (encF g)) : PCall (C gl) 22 [encF (.mk o v l)] (encF (.mk o v l)) := by
  refine pcallX (callX_of b22 (by simp [Tryd.ntmps22]) ?_) (by simp only [AllCl, cl_encF, and_true]) (by simp only [cl_encF])
  refine W.of ?_
  rw [Tryd.ntmps22]
  simp only [toK, codeOf, Tryd.f22, go_sem, seval, reduceCtorEq]
  have H := And.intro @encFs_len @encF_eq
  refine goB ?_
  first | exact trivial | clear H
  refine WK.ownBox0 2 2 3 (by simp only [go_sem, seval, reduceCtorEq, encFs_len]; rfl) (by rfl) ?_
  simp only [go_sem, seval, reduceCtorEq, encFs_len]
  refine WK.rangeX (l.length) [1, 2, 3, 12] [] (fun i => []) (fun i => (((Sto.none.add (.box [.int .i64 o, .int .i64 v, .list false (encFs l)])).add (.box [.int .i64 0, .int .i64 0, .list true []])).add (.box [.int .i64 o, .int .i64 v, .own 3 (encFs (l.take i))])).add (.tok 3 i)) (by omega) (by decide) (by simp only [go_sem, seval, reduceCtorEq, encFs_len, encFs]) (by simp only [go_sem, seval, reduceCtorEq, encFs_len, encFs]) (by simp only [go_sem, seval, reduceCtorEq, encFs_len, encFs, List.take_zero]) (by first | rfl | (simp only [go_sem, seval, reduceCtorEq, encFs_len, encFs]; done) | (refine Sto.ext' (by simp only [go_sem, seval, reduceCtorEq, encFs_len, encFs]) (fun i => ?_); simp only [go_sem, seval, reduceCtorEq, encFs_len, encFs]; repeat' split; all_goals (first | rfl | omega | simp_all))) ?_ ?_
  · intro i hi
    simp only [go_sem, seval, reduceCtorEq, encFs_len]
    have e := encFs_get l i hi
    have H := And.intro @encFs_len (And.intro @e (And.intro @hi @encF_eq))
    refine goB ?_
    first | exact trivial | clear H
    refine WK.draw [⟨false, 0, 0⟩, ⟨false, 0, 1⟩, ⟨false, 0, 0⟩, ⟨true, 0, 0⟩, ⟨false, 0, 0⟩, ⟨true, 0, 0⟩, ⟨false, 0, 0⟩, ⟨true, 0, 0⟩] mixed (by kernel_rfl) ?_
    simp only [go_sem, seval, reduceCtorEq, encFs_len]
    refine callD_pure (ih l[i] (List.getElem_mem hi)) rfl ?_ ?_ ?_ <;> simp only [go_sem, seval, reduceCtorEq, encFs_len, encF_eq]
    have H := @encFs_len
    refine appBd ?_
    first | exact trivial | clear H
    rw [encFs_tk1 l i hi]
    have H := @encFs_len
    exact cutA
  · simp only [go_sem, seval, reduceCtorEq, encFs_len, List.take_length]
    have H := @encFs_len
    refine goB ?_
    first | exact trivial | clear H
    refine ⟨AV.le_agg ⟨.refl _, .refl _, le_own _ _, trivial⟩, ?_⟩
    have H := @encFs_len
    exact cutA
theorem copy_ok (f : Fm) : ShorF f → PCall (C gl) 22 [encF f] (encF f) := by
  induction f using Fm.ind with
  | h o v l ih =>
    intro hs
    simp only [ShorF] at hs
    exact copy_k o v l hs.1 fun g hg => ih g hg (hs.2.mem g hg)
set_option maxHeartbeats 4000000
end
end Go.Sx
