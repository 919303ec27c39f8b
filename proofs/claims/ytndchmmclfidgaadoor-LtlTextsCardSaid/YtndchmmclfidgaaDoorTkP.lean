import Derived.Test.YtndchmmclfidgaaDoorTkO
import Derived.Test.YtndchmmclfidgaaDoorLgAv
set_option maxRecDepth 100000
set_option maxHeartbeats 4000000
set_option linter.unusedSimpArgs false
set_option linter.unusedVariables false
set_option linter.unnecessarySimpa false
namespace Go.Sx
open Go Go.Lg Go.Proofs
theorem b62 {gl : GL} : Body (C gl).P 62 Tryd.f62 (codeOf Tryd.f62) := ⟨Tryd.func62, by kernel_rfl, by kernel_rfl⟩
theorem b110 {gl : GL} : Body (C gl).P 110 Tryd.f110 (codeOf Tryd.f110) := ⟨Tryd.func110, by kernel_rfl, by kernel_rfl⟩
theorem b41 {gl : GL} : Body (C gl).P 41 Tryd.f41 (codeOf Tryd.f41) := ⟨Tryd.func41, by kernel_rfl, by kernel_rfl⟩
def okA (f : Fm) : Prop := ∀ g ∈ nodesF f, okNode 6 g = true
theorem okA_sub {o v : Int} {l : List Fm} (h : okA (.mk o v l)) {g : Fm} (hg : g ∈ l) : okA g := fun x hx => h x (by rw [nodesF]; exact List.mem_cons_of_mem _ (nodesL_sub hg hx))
def putF (i : Int) (b : Fm) : Fm → Fm
  | .mk o v l => if (o == 2 && v == i) = true then b else .mk o v (putL i b l)
where putL (i : Int) (b : Fm) : List Fm → List Fm
  | [] => []
  | f :: l => putF i b f :: putL i b l
theorem putL_map (i : Int) (b : Fm) : ∀ l : List Fm, putF.putL i b l = l.map (putF i b)
  | [] => rfl
  | f :: l => by rw [putF.putL, putL_map i b l]; rfl
section
variable {gl : GL}
theorem isR_ok (f : Fm) (hs : Shrt f) : PCall (C gl) 62 [encF f] (.bool (validF f 6)) := by
  refine pcallX (callX_of b62 (by simp [Tryd.ntmps62]) ?_) (by simp only [AllCl, cl_encF, and_true]) (.bool _)
  have hv : ∀ n, Ctr (C gl) 58 [encF f, .int .i64 n] True (.bool (validF f n)) := fun n => ⟨fun _ => validR_ok f hs n⟩
  refine W.of ?_
  rw [Tryd.ntmps62]
  simp only [toK, codeOf, Tryd.f62, go_sem, seval, reduceCtorEq]
  have H := trivial
  refine autoA ?_
  try exact trivial
  exact cut_none _
instance isR_i (f : Fm) : Ctr (C gl) 62 [encF f] (Shrt f) (.bool (validF f 6)) := ⟨isR_ok f⟩
theorem sizes_ok (f : Fm) : ShorF f → okA f → PCall (C gl) 105 [encF f] (.tup [.int .i64 (sizF f).1, .int .i64 (sizF f).2]) := by
  induction f using Fm.ind with
  | h o v l ih =>
    intro hs hok
    simp only [ShorF] at hs
    exact siz_k 6 o v l (hok _ (nodes_self _)) hs.1 fun g => ⟨fun hg => ih g hg (hs.2.mem g hg) (okA_sub hok hg)⟩
instance sizes_i (f : Fm) : Ctr (C gl) 105 [encF f] (ShorF f ∧ okA f) (.tup [.int .i64 (sizF f).1, .int .i64 (sizF f).2]) := ⟨fun h => sizes_ok f h.1 h.2⟩
instance pos_i (f : Fm) : Ctr (C gl) 106 [encF f] (ShorF f ∧ okA f) (encF (formF true f)) := ⟨fun h => (pn_all 6 f h.1 h.2).1⟩
instance neg_i (f : Fm) : Ctr (C gl) 107 [encF f] (ShorF f ∧ okA f) (encF (formF false f)) := ⟨fun h => (pn_all 6 f h.1 h.2).2⟩
theorem putF_hit {i o v : Int} {b : Fm} {l : List Fm} (h1 : (o == 2) = true) (h2 : (v == i) = true) : putF i b (.mk o v l) = b := by simp [putF, h1, h2]
theorem putF_mis {i o v : Int} {b : Fm} {l : List Fm} (h : (o == 2 && v == i) = false) : putF i b (.mk o v l) = .mk o v (l.map (putF i b)) := by rw [putF, h, putL_map]; rfl
theorem putR_k (i : Int) (b : Fm) (o v : Int) (l : List Fm) (hlen : l.length < 1000000) (ih : ∀ g, Ctr (C gl) 110 [encF g, .int .i64 i, encF b] (g ∈ l) (encF (putF i b g))) :
    PCall (C gl) 110 [encF (.mk o v l), .int .i64 i, encF b] (encF (putF i b (.mk o v l))) := by
  refine pcallX (callX_of b110 (by simp [Tryd.ntmps110]) ?_) (by simp only [AllCl, cl_encF, cl_int, and_true]) (by simp only [cl_encF])
  refine W.of ?_
  rw [Tryd.ntmps110]
  simp only [toK, codeOf, Tryd.f110, go_sem, seval, reduceCtorEq]
  cases h1 : (o == 2) with
  | true =>
    cases h2 : (v == i) with
    | true =>
      rw [putF_hit h1 h2]
      have H := And.intro @h1 @h2
      refine autoA ?_
      repeat' (first | (refine WK.draw (ops := #[_, _, _, _, _, _, _, _, _, _]) [dq 0 0, dq 0 1, dq 0 0, dq 0 0, dq 0 0, dm, dq 0 0, dm, dq 0 0, dm] mixed (by kernel_rfl) ?_; refine autoA ?_))
      try exact trivial
      first | exact cut_none _ | exact finA
    | false =>
      rw [putF_mis (by rw [h2, Bool.and_false])]
      have H := And.intro @h1 @h2
      refine autoA ?_
      repeat' (first | (refine WK.draw (ops := #[_, _, _, _, _, _, _, _, _, _]) [dq 0 0, dq 0 1, dq 0 0, dq 0 0, dq 0 0, dm, dq 0 0, dm, dq 0 0, dm] mixed (by kernel_rfl) ?_; refine autoA ?_))
      try exact trivial
      refine WK.ownBox0 3 2 3 (by simp only [go_sem, seval, reduceCtorEq]; rfl) (by rfl) ?_
      simp only [go_sem, seval, reduceCtorEq]
      refine rangeA (l.length) [1, 3, 5, 6, 7, 26] [] (fun j => []) (fun j => ((((Sto.none.add (.box [.int .i64 o, .int .i64 v, .list false (encFs l)])).add (.box [.int .i64 b.op, .int .i64 b.var, .list false (encFs b.args)])).add (.box [.int .i64 0, .int .i64 0, .list true []])).add (.box [.int .i64 o, .int .i64 v, .own 4 (encFs ((l.take j).map (putF i b)))])).add (.tok 3 j)) ?_ ?_
      · intro j hj
        have H := @hj
        refine autoA ?_
        repeat' (first | (refine WK.draw (ops := #[_, _, _, _, _, _, _, _, _, _]) [dq 0 0, dq 0 1, dq 0 0, dq 0 0, dq 0 0, dm, dq 0 0, dm, dq 0 0, dm] mixed (by kernel_rfl) ?_; refine autoA ?_))
        try exact trivial
        exact cutA
      · simp only [go_sem, seval, reduceCtorEq, List.take_length]
        have H := trivial
        refine autoA ?_
        repeat' (first | (refine WK.draw (ops := #[_, _, _, _, _, _, _, _, _, _]) [dq 0 0, dq 0 1, dq 0 0, dq 0 0, dq 0 0, dm, dq 0 0, dm, dq 0 0, dm] mixed (by kernel_rfl) ?_; refine autoA ?_))
        try exact trivial
        first | exact cut_none _ | exact finA
  | false =>
    rw [putF_mis (by rw [h1, Bool.false_and])]
    have H := @h1
    refine autoA ?_
    repeat' (first | (refine WK.draw (ops := #[_, _, _, _, _, _, _, _, _, _]) [dq 0 0, dq 0 1, dq 0 0, dq 0 0, dq 0 0, dm, dq 0 0, dm, dq 0 0, dm] mixed (by kernel_rfl) ?_; refine autoA ?_))
    try exact trivial
    refine WK.ownBox0 3 2 3 (by simp only [go_sem, seval, reduceCtorEq]; rfl) (by rfl) ?_
    simp only [go_sem, seval, reduceCtorEq]
    refine rangeA (l.length) [1, 3, 5, 6, 7, 26] [] (fun j => []) (fun j => ((((Sto.none.add (.box [.int .i64 o, .int .i64 v, .list false (encFs l)])).add (.box [.int .i64 b.op, .int .i64 b.var, .list false (encFs b.args)])).add (.box [.int .i64 0, .int .i64 0, .list true []])).add (.box [.int .i64 o, .int .i64 v, .own 4 (encFs ((l.take j).map (putF i b)))])).add (.tok 3 j)) ?_ ?_
    · intro j hj
      have H := @hj
      refine autoA ?_
      repeat' (first | (refine WK.draw (ops := #[_, _, _, _, _, _, _, _, _, _]) [dq 0 0, dq 0 1, dq 0 0, dq 0 0, dq 0 0, dm, dq 0 0, dm, dq 0 0, dm] mixed (by kernel_rfl) ?_; refine autoA ?_))
      try exact trivial
      exact cutA
    · simp only [go_sem, seval, reduceCtorEq, List.take_length]
      have H := trivial
      refine autoA ?_
      repeat' (first | (refine WK.draw (ops := #[_, _, _, _, _, _, _, _, _, _]) [dq 0 0, dq 0 1, dq 0 0, dq 0 0, dq 0 0, dm, dq 0 0, dm, dq 0 0, dm] mixed (by kernel_rfl) ?_; refine autoA ?_))
      try exact trivial
      first | exact cut_none _ | exact finA
theorem putR_ok (i : Int) (b : Fm) (f : Fm) : ShorF f → PCall (C gl) 110 [encF f, .int .i64 i, encF b] (encF (putF i b f)) := by
  induction f using Fm.ind with
  | h o v l ih =>
    intro hs
    simp only [ShorF] at hs
    exact putR_k i b o v l hs.1 fun g => ⟨fun hg => ih g hg (hs.2.mem g hg)⟩
instance putR_i (i : Int) (b f : Fm) : Ctr (C gl) 110 [encF f, .int .i64 i, encF b] (ShorF f) (encF (putF i b f)) := ⟨putR_ok i b f⟩
instance copy_i (f : Fm) : Ctr (C gl) 109 [encF f] (ShorF f) (encF f) := ⟨copy_ok f⟩
/-- What the closure of Put finds. -/
def PutSt (i : Int) (b : Fm) (a c d : Nat) (σ : Sto) : Prop := (a < σ.next ∧ c < σ.next ∧ d < σ.next) ∧ σ.get a = some (.box [.int .i64 i]) ∧ σ.get c = some (.box [.int .i64 b.op, .int .i64 b.var, .list false (encFs b.args)]) ∧ σ.get d = some (.box [.fn 108 [.ptr a 0, .ptr c 0, .ptr d 0]])
/-- What Put answers. -/
def putA (f : Fm) (i : Int) (b : Fm) : Fm × Int :=
  if (!validF f 6 || !validF b 6) = true then (fz, 1)
  else if (decide (i < 0) || decide (6 ≤ i)) = true then (fz, 6)
  else if validF (putF i b f) 6 = true then (putF i b f, 0) else (fz, 3)
end
end Go.Sx
