import Derived.Test.YtndchmmclfidgaaDoorTkV
import Derived.Test.YtndchmmclfidgaaDoorTkF
import Derived.Test.YtndchmmclfidgaaDoorLgAv
set_option maxRecDepth 100000
set_option maxHeartbeats 4000000
set_option linter.unusedSimpArgs false
set_option linter.unusedVariables false
set_option linter.unnecessarySimpa false
namespace Go.Lg
theorem CallX.own1 {C : Cx} {f : FuncId} {a : AV} {rest : List AV} {σ σ1 : Sto} {r : AV} (es : Nat) (h : CallX C f (a :: .own σ.next [] :: rest) (σ.add (.tok es 0)) r σ1) : CallX C f (a :: .list true [] :: rest) σ r σ1 := by
  refine ⟨h.here, fun w0 G w V hi hV hrep => ?_⟩
  have hlt : 1 < V.size := by rw [hV]; simp
  have h0 := hrep 1 _ V[1] rfl (Array.getElem?_eq_getElem hlt)
  obtain ⟨G', k1, k2, k3, k4⟩ := own_new hi h0 es
  refine (h.call w0 G' w V k3 hV fun i x v hx hv => ?_).mono ?_
  · match i with
    | 0 => exact (hrep 0 x v hx hv).mono k1
    | 1 =>
      simp only [List.getElem?_cons_succ, List.getElem?_cons_zero, Option.some.injEq] at hx
      subst hx
      rw [Array.getElem?_eq_getElem hlt] at hv
      cases hv
      exact k2
    | i + 2 => exact (hrep (i + 2) x v hx hv).mono k1
  · rintro e w' ⟨G2, v, g1, g2, g3, g4⟩
    exact ⟨G2, v, g1, g2, g3, k4.trans g4⟩
end Go.Lg
namespace Go.Sx
open Go Go.Lg Go.Proofs
theorem b200 {gl : GL} : Body (C gl).P 200 Tryd.f200 (codeOf Tryd.f200) := ⟨Tryd.func200, by kernel_rfl, by kernel_rfl⟩
theorem b174 {gl : GL} : Body (C gl).P 174 Tryd.f174 (codeOf Tryd.f174) := ⟨Tryd.func174, by kernel_rfl, by kernel_rfl⟩
theorem b117 {gl : GL} : Body (C gl).P 117 Tryd.f117 (codeOf Tryd.f117) := ⟨Tryd.func117, by kernel_rfl, by kernel_rfl⟩
theorem b54 {gl : GL} : Body (C gl).P 54 Tryd.f54 (codeOf Tryd.f54) := ⟨Tryd.func54, by kernel_rfl, by kernel_rfl⟩
/-- Where f stands in a list, from n on. -/
def plcF (f : Fm) : List Fm → Nat → Int
  | [], _ => -1
  | g :: l, n => if sameF f g = true then (n : Int) else plcF f l (n + 1)
theorem plcF_neg (f : Fm) : ∀ (l : List Fm) (n : Nat), decide (plcF f l n < 0) = !(l.any (sameF f))
  | [], n => rfl
  | g :: l, n => by
    rw [plcF, List.any_cons]
    cases h : sameF f g with
    | true => rw [if_pos rfl, Bool.true_or]; exact decide_eq_false (by omega)
    | false => rw [if_neg Bool.false_ne_true, Bool.false_or]; exact plcF_neg f l (n + 1)
theorem plcF_app (f : Fm) : ∀ (a b : List Fm) (n : Nat), a.any (sameF f) = false → plcF f (a ++ b) n = plcF f b (n + a.length)
  | [], b, n, _ => by simp
  | g :: a, b, n, h => by
    rw [List.any_cons, Bool.or_eq_false_iff] at h
    rw [List.cons_append, plcF, h.1, if_neg Bool.false_ne_true, plcF_app f a b (n + 1) h.2, List.length_cons]
    congr 1; omega
/-- The subformulas of f that are not in acc yet, behind acc. -/
def addR (f : Fm) (acc : List Fm) : List Fm := if acc.any (sameF f) = true then acc else acc ++ [f]
mutual
def allR : Fm → List Fm → List Fm
  | .mk o v l, acc => addR (.mk o v l) (allRL l acc)
def allRL : List Fm → List Fm → List Fm
  | [], acc => acc
  | f :: l, acc => allRL l (allR f acc)
end
theorem allRL_app : ∀ (a b acc : List Fm), allRL (a ++ b) acc = allRL b (allRL a acc)
  | [], b, acc => by rw [List.nil_append, allRL]
  | f :: a, b, acc => by rw [List.cons_append, allRL, allRL, allRL_app a b]
theorem allRL_take {l : List Fm} {i : Nat} (acc : List Fm) (h : i < l.length) : allRL (l.take (i + 1)) acc = allR l[i] (allRL (l.take i) acc) := by
  rw [← List.take_append_getElem h, allRL_app, allRL, allRL]
theorem allR_len (f : Fm) : ∀ acc, (allR f acc).length ≤ acc.length + nN f := by
  induction f using Fm.ind with
  | h o v l ih =>
    intro acc
    have hl : ∀ l' : List Fm, (∀ g ∈ l', g ∈ l) → ∀ acc, (allRL l' acc).length ≤ acc.length + (nodesL l').length := by
      intro l'
      induction l' with
      | nil => intro _ acc; simp [allRL]
      | cons g l' ih2 =>
        intro h acc
        have h1 := ih g (h g (by simp)) acc
        have h2 := ih2 (fun x hx => h x (List.mem_cons_of_mem _ hx)) (allR g acc)
        unfold nN at h1
        rw [allRL, nodesL, List.length_append]; omega
    have h1 := hl l (fun g hg => hg) acc
    rw [allR]
    unfold addR nN
    rw [nodesF, List.length_cons]
    split
    · omega
    · rw [List.length_append, List.length_singleton]; omega
theorem nodesL_app (a b : List Fm) : (nodesL (a ++ b)).length = (nodesL a).length + (nodesL b).length := by
  induction a with
  | nil => simp [nodesL]
  | cons x a ih => simp only [List.cons_append, nodesL, List.length_append, ih]; omega
theorem allRL_len (l : List Fm) : ∀ acc, (allRL l acc).length ≤ acc.length + (nodesL l).length := by
  induction l with
  | nil => intro acc; simp [allRL]
  | cons g l ih =>
    intro acc
    have h1 := allR_len g acc
    have h2 := ih (allR g acc)
    unfold nN at h1
    rw [allRL, nodesL, List.length_append]; omega
section
variable {gl : GL}
theorem place_ok (f : Fm) (hs : Shrt f) (l : List Fm) (hl : l.length < 1000000) : PCall (C gl) 200 [.list false (encFs l), encF f] (.int .i64 (plcF f l 0)) := by
  have hsa : ∀ g, Ctr (C gl) 32 [encF f, encF g] True (.bool (sameF f g)) := fun g => ⟨fun _ => sameR_ok f hs g⟩
  refine pcallX (callX_of b200 (by simp [Tryd.ntmps200]) ?_) (by simp only [AllCl, cl_encF, cl_list, clE_encFs, and_true]) (.int _ _)
  refine W.of ?_
  rw [Tryd.ntmps200]
  simp only [toK, codeOf, Tryd.f200, go_sem, seval, reduceCtorEq]
  have H := @encFs_len
  refine autoA ?_
  try exact trivial
  refine rangeAI (l.length) [3, 7] [] (fun i => []) (fun i => (Sto.none.add (.box [.int .i64 f.op, .int .i64 f.var, .list false (encFs f.args)]))) (fun i => (l.take i).any (sameF f) = false) ?_ ?_
  · intro i hi hI
    cases hp : sameF f l[i] with
    | true =>
      have e : plcF f l 0 = (i : Int) := by
        have h := plcF_app f (l.take i) (l.drop i) 0 hI
        rw [List.take_append_drop, Nat.zero_add, List.length_take, Nat.min_eq_left (Nat.le_of_lt hi), List.drop_eq_getElem_cons hi, plcF, hp, if_pos rfl] at h
        exact h
      rw [e]
      have H := And.intro @hi @hp
      refine autoA ?_
      try exact trivial
      exact cut_none _
    | false =>
      have H := And.intro @hi @hp
      refine autoA ?_
      try exact trivial
      refine ⟨?_, cutA⟩
      rw [← List.take_append_getElem hi, List.any_append, hI]; simp [hp]
  · intro hI
    rw [List.take_length] at hI
    have e : plcF f l 0 = -1 := by
      have h := plcF_app f l [] 0 hI
      rw [List.append_nil] at h
      exact h
    rw [e]
    have H := trivial
    refine autoA ?_
    try exact trivial
    exact cut_none _
theorem allR_k (o v : Int) (l : List Fm) (hs : Shrt (.mk o v l)) (hlen : l.length < 1000000) (ih : ∀ g ∈ l, ∀ (id : Nat) (acc : List Fm) (σ : Sto), σ.get id = some (.tok 3 acc.length) → id < σ.next → acc.length + nN g < 1000000 →
      CallX (C gl) 174 [encF g, .own id (encFs acc)] σ (.own id (encFs (allR g acc))) (σ.set id (.tok 3 (allR g acc).length)))
    (id : Nat) (acc : List Fm) (σ : Sto) (hσ : σ.get id = some (.tok 3 acc.length)) (hid : id < σ.next) (hb : acc.length + nN (.mk o v l) < 1000000) :
    CallX (C gl) 174 [encF (.mk o v l), .own id (encFs acc)] σ (.own id (encFs (allR (.mk o v l) acc))) (σ.set id (.tok 3 (allR (.mk o v l) acc).length)) := by
  have hle : ∀ i, (nodesL (l.take i)).length ≤ (nodesL l).length := fun i => by
    have e := congrArg (fun l => (nodesL l).length) (List.take_append_drop i l)
    simp only [nodesL_app] at e
    omega
  have hstep : ∀ i (h : i < l.length), (allRL (l.take i) acc).length + nN l[i] ≤ acc.length + (nodesL l).length := fun i h => by
    have h1 := allRL_len (l.take i) acc
    have h2 := hle (i + 1)
    have e := congrArg (fun l => (nodesL l).length) (List.take_append_getElem h)
    simp only [nodesL_app, nodesL, List.append_nil] at e
    unfold nN
    omega
  have hall := allRL_len l acc
  have hnn : nN (.mk o v l) = (nodesL l).length + 1 := by simp [nN, nodesF]
  refine callX_of b174 (by simp [Tryd.ntmps174]) ?_
  have nz_id : (id = σ.next) = False := by simp; omega
  have nx_id : ∀ j, (id = σ.next + j) = False := fun j => by simp; omega
  refine W.of ?_
  rw [Tryd.ntmps174]
  simp only [toK, codeOf, Tryd.f174, go_sem, seval, reduceCtorEq]
  have a0 : ∀ acc, allRL [] acc = acc := fun acc => by rw [allRL]
  have H := And.intro @nz_id (And.intro @nx_id (And.intro @hσ @a0))
  refine autoA ?_
  try exact trivial
  refine WK.rangeX (l.length) [2, 8] [1] (fun i => [.own id (encFs (allRL (l.take i) acc))]) (fun i => ((σ.set id (.tok 3 (allRL (l.take i) acc).length)).add (.box [.int .i64 o, .int .i64 v, .list false (encFs l)]))) (by omega) (by decide) (by simp only [go_sem, seval, reduceCtorEq, nz_id, nx_id, a0, hσ]) (by simp only [go_sem, seval, reduceCtorEq, nz_id, nx_id, a0, hσ]) (by simp only [go_sem, seval, reduceCtorEq, nz_id, nx_id, a0, hσ, List.take_zero]) (by first | rfl | (simp only [go_sem, seval, reduceCtorEq, nz_id, nx_id, a0, hσ]; done) | (refine Sto.ext' (by simp only [go_sem, seval, reduceCtorEq, nz_id, nx_id, a0, hσ]) (fun i => ?_); simp only [go_sem, seval, reduceCtorEq, nz_id, nx_id, a0, hσ]; repeat' split; all_goals (first | rfl | omega | simp_all))) ?_ ?_
  · intro i hi
    have e := allRL_take acc hi
    have hx := List.getElem_mem hi
    have hbi := hstep i hi
    have H := And.intro @nz_id (And.intro @nx_id @hi)
    refine autoA ?_
    try exact trivial
    refine callK_x0 ((ih l[i] hx id (allRL (l.take i) acc) (((σ.set id (.tok 3 (allRL (l.take i) acc).length)).add (.box [.int .i64 o, .int .i64 v, .list false (encFs l)])).add (.box [.int .i64 l[i].op, .int .i64 l[i].var, .list false (encFs l[i].args)])) (by simp only [go_sem, seval, reduceCtorEq, nz_id, nx_id]) (by simp only [go_sem, seval, reduceCtorEq]; omega) (by omega))) rfl ?_ ?_ ?_ <;> simp only [go_sem, seval, reduceCtorEq, nz_id, nx_id, encF_eq]
    rw [e]
    exact ⟨⟨.refl _, by omega⟩, cutA⟩
  · rw [List.take_length]
    have hpl : Ctr (C gl) 200 [.list false (encFs (allRL l acc)), encF (.mk o v l)] True (.int .i64 (plcF (.mk o v l) (allRL l acc) 0)) := ⟨fun _ => place_ok _ hs _ (by omega)⟩
    have hneg := plcF_neg (.mk o v l) (allRL l acc) 0
    rw [allR]
    unfold addR
    cases hm : (allRL l acc).any (sameF (.mk o v l)) with
    | true =>
      rw [hm, Bool.not_true] at hneg
      have H := And.intro @nz_id (And.intro @nx_id @hneg)
      refine autoA ?_
      try exact trivial
      exact cutA
    | false =>
      rw [hm, Bool.not_false] at hneg
      have H := And.intro @nz_id (And.intro @nx_id (And.intro @hneg (And.intro @encFs_len @encFs_append')))
      refine autoA ?_
      try exact trivial
      rw [List.length_append, List.length_singleton]
      exact ⟨⟨.refl _, hid⟩, cutA⟩
theorem allR_ok (f : Fm) : ShorF f → ∀ (id : Nat) (acc : List Fm) (σ : Sto), σ.get id = some (.tok 3 acc.length) → id < σ.next → acc.length + nN f < 1000000 →
    CallX (C gl) 174 [encF f, .own id (encFs acc)] σ (.own id (encFs (allR f acc))) (σ.set id (.tok 3 (allR f acc).length)) := by
  induction f using Fm.ind with
  | h o v l ih =>
    intro hs id acc σ h1 h2 h3
    exact allR_k o v l (shrt_of_shor _ hs) hs.1 (fun g hg id acc σ k1 k2 k3 => ih g hg (hs.2.mem g hg) id acc σ k1 k2 k3) id acc σ h1 h2 h3
/-- What Subs answers. -/
def subS (f : Fm) : List Fm × Int := if validF f 6 = true then (allR f [], 0) else ([], 1)
theorem rAll_ok (f : Fm) (hs : ShorF f) (hn : nN f < 1000000) : PCall (C gl) 117 [encF f] (.list false (encFs (allR f []))) := by
  refine pcallX (callX_of b117 (by simp [Tryd.ntmps117]) ?_) (by simp only [AllCl, cl_encF, and_true]) (by simp only [cl_list, clE_encFs])
  refine W.of ?_
  rw [Tryd.ntmps117]
  simp only [toK, codeOf, Tryd.f117, go_sem, seval, reduceCtorEq]
  have H := trivial
  refine autoA ?_
  try exact trivial
  refine callK_x0 ((CallX.own1 3 (allR_ok f hs 1 [] ((Sto.none.add (.box [.int .i64 f.op, .int .i64 f.var, .list false (encFs f.args)])).add (.tok 3 0)) rfl (Nat.lt_succ_self 1) (by simp; omega)))) rfl ?_ ?_ ?_ <;> simp only [go_sem, seval, reduceCtorEq, encF_eq]
  have H := trivial
  refine autoA ?_
  try exact trivial
  first | exact cut_none _ | exact finA
theorem rSubs_ok (f : Fm) (hs : Shrt f) : PCall (C gl) 54 [encF f] (.tup [.list false (encFs (subS f).1), .int .i64 (subS f).2]) := by
  have hal : ShorF f → nN f < 1000000 → Ctr (C gl) 117 [encF f] True (.list false (encFs (allR f []))) := fun h1 h2 => ⟨fun _ => rAll_ok f h1 h2⟩
  refine pcallX (callX_of b54 (by simp [Tryd.ntmps54]) ?_) (by simp only [AllCl, cl_encF, and_true]) (by simp only [cl_tup, AllCl, cl_list, clE_encFs, cl_int, and_true])
  refine W.of ?_
  rw [Tryd.ntmps54]
  simp only [toK, codeOf, Tryd.f54, go_sem, seval, reduceCtorEq]
  cases hv : validF f 6 with
  | false =>
    rw [show subS f = ([], 1) by unfold subS; rw [hv]; rfl]
    have H := And.intro @hv @hs
    refine autoA ?_
    try exact trivial
    first | exact cut_none _ | (refine finA (by first | (simp only [go_sem, seval, reduceCtorEq, encFs, encF_fold, encF_fold0, Fm.eta, encFs_fold1, encFs_fold2, encFs_fold3]; done) | (simp only [go_sem, seval, reduceCtorEq, encFs, encF_fold, encF_fold0, Fm.eta, encFs_fold1, encFs_fold2, encFs_fold3]; rfl)))
  | true =>
    have hA := (valid_both hv).1
    have hn : nN f ≤ 60 := ((validF_iff f 6).1 hv).2.2.1
    have h2 := hal hA (by omega)
    rw [show subS f = (allR f [], (0 : Int)) by unfold subS; rw [hv]; rfl]
    have H := And.intro @hv @hs
    refine autoA ?_
    try exact trivial
    exact cut_none _
end
end Go.Sx
