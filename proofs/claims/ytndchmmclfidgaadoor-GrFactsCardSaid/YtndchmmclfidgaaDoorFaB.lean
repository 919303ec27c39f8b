import Derived.Test.YtndchmmclfidgaaDoorFaA
import Derived.Test.YtndchmmclfidgaaDoorGxS
import Derived.Test.YtndchmmclfidgaaDoorSxG
set_option maxRecDepth 100000
set_option linter.unusedSimpArgs false
set_option linter.unusedVariables false
set_option linter.unnecessarySimpa false
namespace Go.Sx
open Go Go.Lg Go.Proofs
theorem b27 {gl : GL} : Body (C gl).P 27 Tryd.f27 (codeOf Tryd.f27) := ⟨Tryd.func27, by kernel_rfl, by kernel_rfl⟩
theorem b28 {gl : GL} : Body (C gl).P 28 Tryd.f28 (codeOf Tryd.f28) := ⟨Tryd.func28, by kernel_rfl, by kernel_rfl⟩
theorem b29 {gl : GL} : Body (C gl).P 29 Tryd.f29 (codeOf Tryd.f29) := ⟨Tryd.func29, by kernel_rfl, by kernel_rfl⟩
theorem b30 {gl : GL} : Body (C gl).P 30 Tryd.f30 (codeOf Tryd.f30) := ⟨Tryd.func30, by kernel_rfl, by kernel_rfl⟩
theorem b31 {gl : GL} : Body (C gl).P 31 Tryd.f31 (codeOf Tryd.f31) := ⟨Tryd.func31, by kernel_rfl, by kernel_rfl⟩

/-! ## What the formula of a contract is -/
theorem okN_mono {n m o v : Int} {k : Nat} (h : n ≤ m) (hs : okN n o v k = true) : okN m o v k = true := by
  unfold okN at hs ⊢
  rw [Bool.and_eq_true] at hs ⊢
  refine ⟨hs.1, ?_⟩
  have := hs.2
  split at this
  · rename_i e
    rw [if_pos e]
    simp only [Bool.and_eq_true, decide_eq_true_eq] at this ⊢
    omega
  · rename_i e
    rw [if_neg e]; exact this
mutual
theorem shapedR_mono {n m : Int} (h : n ≤ m) : ∀ f : Fm, shapedR n f = true → shapedR m f = true
  | .mk o v l, hs => by
    simp only [shapedR, Bool.and_eq_true] at hs ⊢
    exact ⟨okN_mono h hs.1, shapedRL_mono h l hs.2⟩
theorem shapedRL_mono {n m : Int} (h : n ≤ m) : ∀ l : List Fm, shapedRL n l = true → shapedRL m l = true
  | [], _ => rfl
  | f :: l, hs => by
    simp only [shapedRL, Bool.and_eq_true] at hs ⊢
    exact ⟨shapedR_mono h f hs.1, shapedRL_mono h l hs.2⟩
end
theorem shaped_1 (n o : Int) (f : Fm) (ho : o = 3 ∨ o = 9 ∨ o = 10) (h : shapedR n f = true) : shapedR n (.mk o 0 [f]) = true := by
  rcases ho with rfl | rfl | rfl <;> simp [shapedR, shapedRL, okN, arF, arityL, h]
theorem shaped_2 (n o : Int) (f g : Fm) (ho : o = 4 ∨ o = 6 ∨ o = 13) (h : shapedR n f = true) (h' : shapedR n g = true) : shapedR n (.mk o 0 [f, g]) = true := by
  rcases ho with rfl | rfl | rfl <;> simp [shapedR, shapedRL, okN, arF, arityL, h, h']
theorem shaped_foldl (n : Int) : ∀ (l : List Fm) (f : Fm), shapedR n f = true → (∀ g ∈ l, shapedR n g = true) → shapedR n (l.foldl (fun a g => Fm.mk 4 0 [a, g]) f) = true
  | [], f, hf, _ => hf
  | g :: l, f, hf, hl => shaped_foldl n l _ (shaped_2 n 4 f g (.inl rfl) hf (hl g (List.mem_cons_self ..))) fun x hx => hl x (List.mem_cons_of_mem _ hx)
theorem shaped_conj (n : Int) (l : List Fm) (hl : ∀ g ∈ l, shapedR n g = true) : shapedR n (conjF l) = true := by
  cases l with
  | nil => simp [conjF, shapedR, shapedRL, okN, arF, arityL]
  | cons f l => exact shaped_foldl n l f (hl f (List.mem_cons_self ..)) fun x hx => hl x (List.mem_cons_of_mem _ hx)
theorem shaped_often (n : Int) (l : List Fm) (hl : ∀ g ∈ l, shapedR n g = true) : shapedR n (conjF (oftenL l)) = true := by
  refine shaped_conj n _ fun g hg => ?_
  obtain ⟨f, hf, rfl⟩ := List.mem_map.1 hg
  exact shaped_1 n 10 _ (.inr (.inr rfl)) (shaped_1 n 9 f (.inr (.inl rfl)) (hl f hf))
theorem shaped_of {f : Fm} {n x : Int} (h : goodF f n x = true) : shapedR n f = true := by
  unfold goodF at h
  rw [Bool.and_eq_true, ← validF_ref] at h
  simp only [Bool.and_eq_true] at h
  exact h.1.2.2.2
theorem fit_eq {c : Ct} (hv : validC c = true) : validF (fmlC c) (c.inn + c.out) = decide (nodesR 60 (fmlC c) ≤ 60) := by
  have hv' := hv
  unfold validC at hv'
  simp only [Bool.and_eq_true, decide_eq_true_eq, List.all_eq_true] at hv'
  obtain ⟨⟨⟨⟨⟨⟨⟨⟨⟨⟨h1, h2⟩, h3⟩, h4⟩, h5⟩, g1⟩, g2⟩, g3⟩, g4⟩, g5⟩, g6⟩ := hv'
  have e1 := shapedR_mono (show c.inn ≤ c.inn + c.out by omega) _ (shaped_of g1)
  have e : shapedR (c.inn + c.out) (fmlC c) = true :=
    shaped_2 _ 6 _ _ (.inr (.inl rfl)) e1 (shaped_2 _ 4 _ _ (.inl rfl) (shaped_of g2) (shaped_2 _ 4 _ _ (.inl rfl) (shaped_2 _ 13 _ _ (.inr (.inr rfl)) (shaped_of g4) (shaped_1 _ 3 _ (.inl rfl) (shaped_of g3)))
      (shaped_2 _ 6 _ _ (.inr (.inl rfl)) (shaped_2 _ 4 _ _ (.inl rfl) (shaped_1 _ 10 _ (.inr (.inr rfl)) (shaped_of g3)) (shaped_often _ _ fun f hf => shaped_of (g5 f hf))) (shaped_often _ _ fun f hf => shaped_of (g6 f hf)))))
  rw [← validF_ref, e, decide_eq_true (show c.inn + c.out ≥ 0 by omega), decide_eq_true (show c.inn + c.out ≤ 6 by omega)]
  simp
theorem shrt_1 (o v : Int) {f : Fm} (h : Shrt f) : Shrt (.mk o v [f]) := by simp only [Shrt, ShrtL, and_true]; exact ⟨by simp, h⟩
theorem shrt_2 (o v : Int) {f g : Fm} (h : Shrt f) (h' : Shrt g) : Shrt (.mk o v [f, g]) := by simp only [Shrt, ShrtL, and_true]; exact ⟨by simp, h, h'⟩
theorem shrt_foldl : ∀ (l : List Fm) (f : Fm), Shrt f → (∀ g ∈ l, Shrt g) → Shrt (l.foldl (fun a g => Fm.mk 4 0 [a, g]) f)
  | [], f, hf, _ => hf
  | g :: l, f, hf, hl => shrt_foldl l _ (shrt_2 4 0 hf (hl g (List.mem_cons_self ..))) fun x hx => hl x (List.mem_cons_of_mem _ hx)
theorem shrt_often (l : List Fm) (hl : ∀ g ∈ l, Shrt g) : Shrt (conjF (oftenL l)) := by
  cases l with
  | nil => simp [conjF, oftenL, Shrt, ShrtL]
  | cons f l =>
    refine shrt_foldl _ _ (shrt_1 10 0 (shrt_1 9 0 (hl f (List.mem_cons_self ..)))) fun g hg => ?_
    obtain ⟨x, hx, rfl⟩ := List.mem_map.1 hg
    exact shrt_1 10 0 (shrt_1 9 0 (hl x (List.mem_cons_of_mem _ hx)))
theorem shrt_fml {c : Ct} (h : ShrtC c) : Shrt (fmlC c) :=
  shrt_2 6 0 h.ie (shrt_2 4 0 h.is (shrt_2 4 0 (shrt_2 13 0 h.ss (shrt_1 3 0 h.se)) (shrt_2 6 0 (shrt_2 4 0 (shrt_1 10 0 h.se) (shrt_often _ h.je.mem)) (shrt_often _ h.js.mem))))
mutual
theorem shor_of : ∀ f : Fm, (nodesF f).length < 1000000 → ShorF f
  | .mk o v l, h => by
    simp only [nodesF, List.length_cons] at h
    have := nodesL_len l
    exact ⟨by omega, shorL_of l (by omega)⟩
theorem shorL_of : ∀ l : List Fm, (nodesL l).length < 1000000 → ShorL l
  | [], _ => trivial
  | f :: l, h => by
    simp only [nodesL, List.length_append] at h
    exact ⟨shor_of f (by omega), shorL_of l (by omega)⟩
theorem nodesL_len : ∀ l : List Fm, l.length ≤ (nodesL l).length
  | [] => Nat.le_refl _
  | .mk o v a :: l => by
    have := nodesL_len l
    simp only [nodesL, nodesF, List.length_cons, List.length_append]; omega
end

/-- The formula and the error. -/
def zF : Fm := .mk 0 0 []
def fitC (c : Ct) : Bool := decide (nodesR 60 (fmlC c) ≤ 60)
def fmlR (c : Ct) : Fm × Int := if validC c = true then (if fitC c = true then (fmlC c, 0) else (zF, 3)) else (zF, 1)
def encS (i o : Int) (p q : List Fm) : AV := .agg [.int .i64 i, .int .i64 o, .list false (encFs p), .list false (encFs q)]
theorem cl_encS {i o : Int} {p q : List Fm} : Closed (encS i o p q) = True := by simp only [encS, cl_agg, AllCl, cl_int, cl_list, clE_encFs, and_true]
def goodR (c : Ct) (l k : Int) : Bool × Bool × Int :=
  if validC c = true then (if 0 ≤ l ∧ l < 2 ^ (c.inn + c.out).toNat ∧ 0 ≤ k ∧ k < 2 ^ (c.inn + c.out).toNat then (holdsF l k c.se, holdsF l k c.ss, 0) else (false, false, 6)) else (false, false, 1)
section
variable {gl : GL} (har : gl.at' 0 = arityA)
theorem rformula_ok (c : Ct) (hs : ShrtC c) (hj : c.je.length < 1000000) (hj2 : c.js.length < 1000000) : PCall (C gl) 28 [encC c] (.tup [encF (fmlR c).1, .int .i64 (fmlR c).2]) := by
  refine pcallX (callX_of b28 (by simp [Tryd.ntmps28]) ?_) (by simp only [AllCl, cl_encC, and_true]) (by simp only [cl_tup, AllCl, cl_encF, cl_int, and_true])
  refine W.of ?_
  rw [Tryd.ntmps28]
  simp only [toK, codeOf, Tryd.f28, go_sem, seval, reduceCtorEq]
  try simp only [go_sem, seval, reduceCtorEq, ctCells]
  repeat (first | refine WK.blockSeq ?_ | refine WK.blockCond ?_ | refine WK.blockReg ?_ | (refine WK.condT ?_ ?_; (focus (simp only [go_sem, seval, reduceCtorEq, ctCells]; done))) | (refine WK.condF ?_ ?_; (focus (simp only [go_sem, seval, reduceCtorEq, ctCells]; done))) | refine WK.seq ?_ | ((first | refine WK.reg ?_ | refine WK.skip ?_ | refine WK.ret ?_ | refine WK.exit ?_); simp only [go_sem, seval, reduceCtorEq, ctCells]) | ((with_reducible refine And.intro ?_ ?_); omega) | omega)
  refine callK_pureL (rvalid_ok (gl := gl) c hs) rfl ?_ ?_ ?_ <;> simp only [go_sem, seval, reduceCtorEq, rvalC_eq, ctCells]
  cases hv : validC c with
  | false =>
    have e : fmlR c = (zF, 1) := by unfold fmlR; rw [hv]; rfl
    try simp only [go_sem, seval, reduceCtorEq, hv, e]
    repeat (first | refine WK.blockSeq ?_ | refine WK.blockCond ?_ | refine WK.blockReg ?_ | (refine WK.condT ?_ ?_; (focus (simp only [go_sem, seval, reduceCtorEq, hv, e]; done))) | (refine WK.condF ?_ ?_; (focus (simp only [go_sem, seval, reduceCtorEq, hv, e]; done))) | refine WK.seq ?_ | ((first | refine WK.reg ?_ | refine WK.skip ?_ | refine WK.ret ?_ | refine WK.exit ?_); simp only [go_sem, seval, reduceCtorEq, hv, e]) | ((with_reducible refine And.intro ?_ ?_); omega) | omega)
    refine ⟨AV.le_tup ⟨AV.le_agg ⟨.refl _, .refl _, AV.le_list' _, trivial⟩, .refl _, trivial⟩, ?_⟩
    refine Cut.by' (by first | exact Nat.le_refl _ | (simp only [Sto.get_add, Sto.get_set, Sto.get_del, Sto.get_none, Sto.next_add, Sto.next_set, Sto.next_del, Sto.next_none]; omega)) (by first | exact Nat.le_refl _ | (simp only [Sto.get_add, Sto.get_set, Sto.get_del, Sto.get_none, Sto.next_add, Sto.next_set, Sto.next_del, Sto.next_none]; omega)) (fun i hi => ?_) (fun i o hi ho => ?_)
    · (try simp only [Sto.get_add, Sto.get_set, Sto.get_del, Sto.get_none, Sto.next_add, Sto.next_set, Sto.next_del, Sto.next_none] at hi ⊢); ((repeat' split) <;> first | exact .inl rfl | exact .inr rfl | omega | (simp_all; done))
    · (try simp only [Sto.get_add, Sto.get_set, Sto.get_del, Sto.get_none, Sto.next_add, Sto.next_set, Sto.next_del, Sto.next_none] at hi ho ⊢); ((repeat' split at ho) <;> (repeat' split) <;> first | (exact ⟨ho, .inl ho⟩) | (cases ho; done) | omega | (cases ho; refine ⟨rfl, .inl rfl⟩) | (cases ho; refine ⟨rfl, .inr ?_⟩; simp only [go_sem, seval, reduceCtorEq]; first | done | omega | (refine ⟨?_, ?_⟩ <;> omega)) | (simp_all; done))
  | true =>
  try simp only [go_sem, seval, reduceCtorEq, hv, ctCells]
  repeat (first | refine WK.blockSeq ?_ | refine WK.blockCond ?_ | refine WK.blockReg ?_ | (refine WK.condT ?_ ?_; (focus (simp only [go_sem, seval, reduceCtorEq, hv, ctCells]; done))) | (refine WK.condF ?_ ?_; (focus (simp only [go_sem, seval, reduceCtorEq, hv, ctCells]; done))) | refine WK.seq ?_ | ((first | refine WK.reg ?_ | refine WK.skip ?_ | refine WK.ret ?_ | refine WK.exit ?_); simp only [go_sem, seval, reduceCtorEq, hv, ctCells]) | ((with_reducible refine And.intro ?_ ?_); omega) | omega)
  refine WK.drawF [⟨false, 0, 0⟩, ⟨false, 0, 3⟩, ⟨false, 0, 0⟩, ⟨false, 0, 3⟩, ⟨false, 0, 0⟩, ⟨true, 0, 0⟩, ⟨false, 0, 0⟩, ⟨true, 0, 0⟩, ⟨true, 0, 0⟩, ⟨true, 0, 0⟩] mixed (by kernel_rfl) ?_
  simp only [go_sem, seval, reduceCtorEq]
  refine callD_pure (rof_ok (gl := gl) true 3 [c.se]) rfl ?_ ?_ ?_ <;> simp only [go_sem, seval, reduceCtorEq, encF_eq, encFs]
  refine callD_pure (rof_ok (gl := gl) true 13 [c.ss, .mk 3 0 [c.se]]) rfl ?_ ?_ ?_ <;> simp only [go_sem, seval, reduceCtorEq, encF_eq, encFs]
  try simp only [go_sem, seval, reduceCtorEq]
  repeat (first | refine WK.blockSeq ?_ | refine WK.blockCond ?_ | refine WK.blockReg ?_ | (refine WK.condT ?_ ?_; (focus (simp only [go_sem, seval, reduceCtorEq]; done))) | (refine WK.condF ?_ ?_; (focus (simp only [go_sem, seval, reduceCtorEq]; done))) | refine WK.seq ?_ | ((first | refine WK.reg ?_ | refine WK.skip ?_ | refine WK.ret ?_ | refine WK.exit ?_); simp only [go_sem, seval, reduceCtorEq]) | ((with_reducible refine And.intro ?_ ?_); omega) | omega)
  refine WK.drawF [⟨false, 0, 0⟩, ⟨false, 0, 5⟩, ⟨false, 0, 0⟩, ⟨true, 0, 0⟩, ⟨false, 0, 0⟩, ⟨false, 1, 4⟩, ⟨true, 0, 0⟩, ⟨true, 0, 0⟩, ⟨false, 0, 0⟩, ⟨true, 0, 0⟩, ⟨true, 0, 0⟩, ⟨true, 0, 0⟩] mixed (by kernel_rfl) ?_
  simp only [go_sem, seval, reduceCtorEq]
  refine callD_pure (rof_ok (gl := gl) true 10 [c.se]) rfl ?_ ?_ ?_ <;> simp only [go_sem, seval, reduceCtorEq, encF_eq, encFs]
  refine callD_pure (again_ok (gl := gl) c.je hj) rfl ?_ ?_ ?_ <;> simp only [go_sem, seval, reduceCtorEq]
  refine callD_pure (rall_ok (gl := gl) (oftenL c.je) (by simpa [oftenL] using hj)) rfl ?_ ?_ ?_ <;> simp only [go_sem, seval, reduceCtorEq, encF_eq]
  refine callD_pure (rof_ok (gl := gl) true 4 [.mk 10 0 [c.se], conjF (oftenL c.je)]) rfl ?_ ?_ ?_ <;> simp only [go_sem, seval, reduceCtorEq, encF_eq, encFs]
  try simp only [go_sem, seval, reduceCtorEq]
  repeat (first | refine WK.blockSeq ?_ | refine WK.blockCond ?_ | refine WK.blockReg ?_ | (refine WK.condT ?_ ?_; (focus (simp only [go_sem, seval, reduceCtorEq]; done))) | (refine WK.condF ?_ ?_; (focus (simp only [go_sem, seval, reduceCtorEq]; done))) | refine WK.seq ?_ | ((first | refine WK.reg ?_ | refine WK.skip ?_ | refine WK.ret ?_ | refine WK.exit ?_); simp only [go_sem, seval, reduceCtorEq]) | ((with_reducible refine And.intro ?_ ?_); omega) | omega)
  refine WK.drawF [⟨false, 0, 4⟩, ⟨false, 0, 0⟩, ⟨false, 0, 4⟩, ⟨true, 0, 0⟩, ⟨true, 0, 0⟩, ⟨false, 0, 0⟩, ⟨true, 0, 0⟩, ⟨true, 0, 0⟩, ⟨true, 0, 0⟩] mixed (by kernel_rfl) ?_
  simp only [go_sem, seval, reduceCtorEq]
  refine callD_pure (again_ok (gl := gl) c.js hj2) rfl ?_ ?_ ?_ <;> simp only [go_sem, seval, reduceCtorEq]
  refine callD_pure (rall_ok (gl := gl) (oftenL c.js) (by simpa [oftenL] using hj2)) rfl ?_ ?_ ?_ <;> simp only [go_sem, seval, reduceCtorEq, encF_eq]
  refine callD_pure (rof_ok (gl := gl) true 6 [.mk 4 0 [.mk 10 0 [c.se], conjF (oftenL c.je)], conjF (oftenL c.js)]) rfl ?_ ?_ ?_ <;> simp only [go_sem, seval, reduceCtorEq, encF_eq, encFs]
  try simp only [go_sem, seval, reduceCtorEq]
  repeat (first | refine WK.blockSeq ?_ | refine WK.blockCond ?_ | refine WK.blockReg ?_ | (refine WK.condT ?_ ?_; (focus (simp only [go_sem, seval, reduceCtorEq]; done))) | (refine WK.condF ?_ ?_; (focus (simp only [go_sem, seval, reduceCtorEq]; done))) | refine WK.seq ?_ | ((first | refine WK.reg ?_ | refine WK.skip ?_ | refine WK.ret ?_ | refine WK.exit ?_); simp only [go_sem, seval, reduceCtorEq]) | ((with_reducible refine And.intro ?_ ?_); omega) | omega)
  refine WK.drawF [⟨false, 0, 0⟩, ⟨false, 0, 4⟩, ⟨false, 0, 0⟩, ⟨false, 0, 4⟩, ⟨false, 0, 4⟩, ⟨false, 0, 4⟩, ⟨false, 0, 0⟩, ⟨true, 0, 0⟩, ⟨false, 0, 0⟩, ⟨true, 0, 0⟩, ⟨false, 0, 0⟩, ⟨true, 0, 0⟩, ⟨true, 0, 0⟩, ⟨true, 0, 0⟩] mixed (by kernel_rfl) ?_
  simp only [go_sem, seval, reduceCtorEq]
  refine callD_pure (rof_ok (gl := gl) true 4 [.mk 13 0 [c.ss, .mk 3 0 [c.se]], .mk 6 0 [.mk 4 0 [.mk 10 0 [c.se], conjF (oftenL c.je)], conjF (oftenL c.js)]]) rfl ?_ ?_ ?_ <;> simp only [go_sem, seval, reduceCtorEq, encF_eq, encFs]
  refine callD_pure (rof_ok (gl := gl) true 4 [c.is, .mk 4 0 [.mk 13 0 [c.ss, .mk 3 0 [c.se]], .mk 6 0 [.mk 4 0 [.mk 10 0 [c.se], conjF (oftenL c.je)], conjF (oftenL c.js)]]]) rfl ?_ ?_ ?_ <;> simp only [go_sem, seval, reduceCtorEq, encF_eq, encFs]
  refine callD_pure (rof_ok (gl := gl) true 6 [c.ie, .mk 4 0 [c.is, .mk 4 0 [.mk 13 0 [c.ss, .mk 3 0 [c.se]], .mk 6 0 [.mk 4 0 [.mk 10 0 [c.se], conjF (oftenL c.je)], conjF (oftenL c.js)]]]]) rfl ?_ ?_ ?_ <;> simp only [go_sem, seval, reduceCtorEq, encF_eq, encFs]
  try simp only [go_sem, seval, reduceCtorEq]
  repeat (first | refine WK.blockSeq ?_ | refine WK.blockCond ?_ | refine WK.blockReg ?_ | (refine WK.condT ?_ ?_; (focus (simp only [go_sem, seval, reduceCtorEq]; done))) | (refine WK.condF ?_ ?_; (focus (simp only [go_sem, seval, reduceCtorEq]; done))) | refine WK.seq ?_ | ((first | refine WK.reg ?_ | refine WK.skip ?_ | refine WK.ret ?_ | refine WK.exit ?_); simp only [go_sem, seval, reduceCtorEq]) | ((with_reducible refine And.intro ?_ ?_); omega) | omega)
  have hq := fewR_ok (gl := gl) (fmlC c) (shrt_fml hs) 60 (by omega) (by omega)
  unfold fmlC at hq
  refine callK_pureL (hq) rfl ?_ ?_ ?_ <;> simp only [go_sem, seval, reduceCtorEq, encF_eq]
  cases hf : fitC c with
  | false =>
    have hf' : decide (nodesR 60 (fmlC c) ≤ 60) = false := hf
    unfold fmlC at hf'
    have e : fmlR c = (zF, 3) := by unfold fmlR; rw [hv, hf]; rfl
    try simp only [go_sem, seval, reduceCtorEq, hf', e]
    repeat (first | refine WK.blockSeq ?_ | refine WK.blockCond ?_ | refine WK.blockReg ?_ | (refine WK.condT ?_ ?_; (focus (simp only [go_sem, seval, reduceCtorEq, hf', e]; done))) | (refine WK.condF ?_ ?_; (focus (simp only [go_sem, seval, reduceCtorEq, hf', e]; done))) | refine WK.seq ?_ | ((first | refine WK.reg ?_ | refine WK.skip ?_ | refine WK.ret ?_ | refine WK.exit ?_); simp only [go_sem, seval, reduceCtorEq, hf', e]) | ((with_reducible refine And.intro ?_ ?_); omega) | omega)
    refine ⟨AV.le_tup ⟨AV.le_agg ⟨.refl _, .refl _, AV.le_list' _, trivial⟩, .refl _, trivial⟩, ?_⟩
    refine Cut.by' (by first | exact Nat.le_refl _ | (simp only [Sto.get_add, Sto.get_set, Sto.get_del, Sto.get_none, Sto.next_add, Sto.next_set, Sto.next_del, Sto.next_none]; omega)) (by first | exact Nat.le_refl _ | (simp only [Sto.get_add, Sto.get_set, Sto.get_del, Sto.get_none, Sto.next_add, Sto.next_set, Sto.next_del, Sto.next_none]; omega)) (fun i hi => ?_) (fun i o hi ho => ?_)
    · (try simp only [Sto.get_add, Sto.get_set, Sto.get_del, Sto.get_none, Sto.next_add, Sto.next_set, Sto.next_del, Sto.next_none] at hi ⊢); ((repeat' split) <;> first | exact .inl rfl | exact .inr rfl | omega | (simp_all; done))
    · (try simp only [Sto.get_add, Sto.get_set, Sto.get_del, Sto.get_none, Sto.next_add, Sto.next_set, Sto.next_del, Sto.next_none] at hi ho ⊢); ((repeat' split at ho) <;> (repeat' split) <;> first | (exact ⟨ho, .inl ho⟩) | (cases ho; done) | omega | (cases ho; refine ⟨rfl, .inl rfl⟩) | (cases ho; refine ⟨rfl, .inr ?_⟩; simp only [go_sem, seval, reduceCtorEq]; first | done | omega | (refine ⟨?_, ?_⟩ <;> omega)) | (simp_all; done))
  | true =>
    have hf' : decide (nodesR 60 (fmlC c) ≤ 60) = true := hf
    unfold fmlC at hf'
    have e : fmlR c = (fmlC c, 0) := by unfold fmlR; rw [hv, hf]; rfl
    try simp only [go_sem, seval, reduceCtorEq, hf', e]
    repeat (first | refine WK.blockSeq ?_ | refine WK.blockCond ?_ | refine WK.blockReg ?_ | (refine WK.condT ?_ ?_; (focus (simp only [go_sem, seval, reduceCtorEq, hf', e]; done))) | (refine WK.condF ?_ ?_; (focus (simp only [go_sem, seval, reduceCtorEq, hf', e]; done))) | refine WK.seq ?_ | ((first | refine WK.reg ?_ | refine WK.skip ?_ | refine WK.ret ?_ | refine WK.exit ?_); simp only [go_sem, seval, reduceCtorEq, hf', e]) | ((with_reducible refine And.intro ?_ ?_); omega) | omega)
    refine ⟨AV.le_tup ⟨AV.le.refl _, .refl _, trivial⟩, ?_⟩
    refine Cut.by' (by first | exact Nat.le_refl _ | (simp only [Sto.get_add, Sto.get_set, Sto.get_del, Sto.get_none, Sto.next_add, Sto.next_set, Sto.next_del, Sto.next_none]; omega)) (by first | exact Nat.le_refl _ | (simp only [Sto.get_add, Sto.get_set, Sto.get_del, Sto.get_none, Sto.next_add, Sto.next_set, Sto.next_del, Sto.next_none]; omega)) (fun i hi => ?_) (fun i o hi ho => ?_)
    · (try simp only [Sto.get_add, Sto.get_set, Sto.get_del, Sto.get_none, Sto.next_add, Sto.next_set, Sto.next_del, Sto.next_none] at hi ⊢); ((repeat' split) <;> first | exact .inl rfl | exact .inr rfl | omega | (simp_all; done))
    · (try simp only [Sto.get_add, Sto.get_set, Sto.get_del, Sto.get_none, Sto.next_add, Sto.next_set, Sto.next_del, Sto.next_none] at hi ho ⊢); ((repeat' split at ho) <;> (repeat' split) <;> first | (exact ⟨ho, .inl ho⟩) | (cases ho; done) | omega | (cases ho; refine ⟨rfl, .inl rfl⟩) | (cases ho; refine ⟨rfl, .inr ?_⟩; simp only [go_sem, seval, reduceCtorEq]; first | done | omega | (refine ⟨?_, ?_⟩ <;> omega)) | (simp_all; done))
include har
theorem gformula_ok (c : Ct) (hs : ShrtC c) (hj : c.je.length < 1000000) (hj2 : c.js.length < 1000000) : PCall (C gl) 27 [encC c] (.tup [encF (fmlR c).1, .int .i64 (fmlR c).2]) := by
  refine pcallX (callX_of b27 (by simp [Tryd.ntmps27]) ?_) (by simp only [AllCl, cl_encC, and_true]) (by simp only [cl_tup, AllCl, cl_encF, cl_int, and_true])
  refine W.of ?_
  rw [Tryd.ntmps27]
  simp only [toK, codeOf, Tryd.f27, go_sem, seval, reduceCtorEq]
  try simp only [go_sem, seval, reduceCtorEq, ctCells]
  repeat (first | refine WK.blockSeq ?_ | refine WK.blockCond ?_ | refine WK.blockReg ?_ | (refine WK.condT ?_ ?_; (focus (simp only [go_sem, seval, reduceCtorEq, ctCells]; done))) | (refine WK.condF ?_ ?_; (focus (simp only [go_sem, seval, reduceCtorEq, ctCells]; done))) | refine WK.seq ?_ | ((first | refine WK.reg ?_ | refine WK.skip ?_ | refine WK.ret ?_ | refine WK.exit ?_); simp only [go_sem, seval, reduceCtorEq, ctCells]) | ((with_reducible refine And.intro ?_ ?_); omega) | omega)
  refine callK_pureL (gvalid_ok (gl := gl) har c hs) rfl ?_ ?_ ?_ <;> simp only [go_sem, seval, reduceCtorEq, ctCells]
  cases hv : validC c with
  | false =>
    have e : fmlR c = (zF, 1) := by unfold fmlR; rw [hv]; rfl
    try simp only [go_sem, seval, reduceCtorEq, hv, e]
    repeat (first | refine WK.blockSeq ?_ | refine WK.blockCond ?_ | refine WK.blockReg ?_ | (refine WK.condT ?_ ?_; (focus (simp only [go_sem, seval, reduceCtorEq, hv, e]; done))) | (refine WK.condF ?_ ?_; (focus (simp only [go_sem, seval, reduceCtorEq, hv, e]; done))) | refine WK.seq ?_ | ((first | refine WK.reg ?_ | refine WK.skip ?_ | refine WK.ret ?_ | refine WK.exit ?_); simp only [go_sem, seval, reduceCtorEq, hv, e]) | ((with_reducible refine And.intro ?_ ?_); omega) | omega)
    refine ⟨AV.le_tup ⟨AV.le_agg ⟨.refl _, .refl _, AV.le_list' _, trivial⟩, .refl _, trivial⟩, ?_⟩
    refine Cut.by' (by first | exact Nat.le_refl _ | (simp only [Sto.get_add, Sto.get_set, Sto.get_del, Sto.get_none, Sto.next_add, Sto.next_set, Sto.next_del, Sto.next_none]; omega)) (by first | exact Nat.le_refl _ | (simp only [Sto.get_add, Sto.get_set, Sto.get_del, Sto.get_none, Sto.next_add, Sto.next_set, Sto.next_del, Sto.next_none]; omega)) (fun i hi => ?_) (fun i o hi ho => ?_)
    · (try simp only [Sto.get_add, Sto.get_set, Sto.get_del, Sto.get_none, Sto.next_add, Sto.next_set, Sto.next_del, Sto.next_none] at hi ⊢); ((repeat' split) <;> first | exact .inl rfl | exact .inr rfl | omega | (simp_all; done))
    · (try simp only [Sto.get_add, Sto.get_set, Sto.get_del, Sto.get_none, Sto.next_add, Sto.next_set, Sto.next_del, Sto.next_none] at hi ho ⊢); ((repeat' split at ho) <;> (repeat' split) <;> first | (exact ⟨ho, .inl ho⟩) | (cases ho; done) | omega | (cases ho; refine ⟨rfl, .inl rfl⟩) | (cases ho; refine ⟨rfl, .inr ?_⟩; simp only [go_sem, seval, reduceCtorEq]; first | done | omega | (refine ⟨?_, ?_⟩ <;> omega)) | (simp_all; done))
  | true =>
  obtain ⟨a, b, hc⟩ := valid_ct hv
  have hwn : IntKind.i64.wrap (c.inn + c.out) = c.inn + c.out := wrap_lt (by have := hc.inn; have := hc.out; have := hc.a3; have := hc.b3; omega) (by have := hc.inn; have := hc.out; have := hc.a3; have := hc.b3; omega)
  try simp only [go_sem, seval, reduceCtorEq, hwn, hv, ctCells]
  repeat (first | refine WK.blockSeq ?_ | refine WK.blockCond ?_ | refine WK.blockReg ?_ | (refine WK.condT ?_ ?_; (focus (simp only [go_sem, seval, reduceCtorEq, hwn, hv, ctCells]; done))) | (refine WK.condF ?_ ?_; (focus (simp only [go_sem, seval, reduceCtorEq, hwn, hv, ctCells]; done))) | refine WK.seq ?_ | ((first | refine WK.reg ?_ | refine WK.skip ?_ | refine WK.ret ?_ | refine WK.exit ?_); simp only [go_sem, seval, reduceCtorEq, hwn, hv, ctCells]) | ((with_reducible refine And.intro ?_ ?_); omega) | omega)
  refine callK_pureL (gformula_ok0 (gl := gl) c hj hj2) rfl ?_ ?_ ?_ <;> simp only [go_sem, seval, reduceCtorEq, hwn, encF_eq, ctCells]
  try simp only [go_sem, seval, reduceCtorEq, hwn]
  repeat (first | refine WK.blockSeq ?_ | refine WK.blockCond ?_ | refine WK.blockReg ?_ | (refine WK.condT ?_ ?_; (focus (simp only [go_sem, seval, reduceCtorEq, hwn]; done))) | (refine WK.condF ?_ ?_; (focus (simp only [go_sem, seval, reduceCtorEq, hwn]; done))) | refine WK.seq ?_ | ((first | refine WK.reg ?_ | refine WK.skip ?_ | refine WK.ret ?_ | refine WK.exit ?_); simp only [go_sem, seval, reduceCtorEq, hwn]) | ((with_reducible refine And.intro ?_ ?_); omega) | omega)
  refine callK_pureL (valid_ok (gl := gl) har (fmlC c) (shrt_fml hs) (c.inn + c.out)) rfl ?_ ?_ ?_ <;> simp only [go_sem, seval, reduceCtorEq, hwn, encF_eq]
  have hfe := fit_eq hv
  cases hf : fitC c with
  | false =>
    have hf' : decide (nodesR 60 (fmlC c) ≤ 60) = false := hf
    rw [hf'] at hfe
    have e : fmlR c = (zF, 3) := by unfold fmlR; rw [hv, hf]; rfl
    try simp only [go_sem, seval, reduceCtorEq, hwn, hfe, e]
    repeat (first | refine WK.blockSeq ?_ | refine WK.blockCond ?_ | refine WK.blockReg ?_ | (refine WK.condT ?_ ?_; (focus (simp only [go_sem, seval, reduceCtorEq, hwn, hfe, e]; done))) | (refine WK.condF ?_ ?_; (focus (simp only [go_sem, seval, reduceCtorEq, hwn, hfe, e]; done))) | refine WK.seq ?_ | ((first | refine WK.reg ?_ | refine WK.skip ?_ | refine WK.ret ?_ | refine WK.exit ?_); simp only [go_sem, seval, reduceCtorEq, hwn, hfe, e]) | ((with_reducible refine And.intro ?_ ?_); omega) | omega)
    refine ⟨AV.le_tup ⟨AV.le_agg ⟨.refl _, .refl _, AV.le_list' _, trivial⟩, .refl _, trivial⟩, ?_⟩
    refine Cut.by' (by first | exact Nat.le_refl _ | (simp only [Sto.get_add, Sto.get_set, Sto.get_del, Sto.get_none, Sto.next_add, Sto.next_set, Sto.next_del, Sto.next_none]; omega)) (by first | exact Nat.le_refl _ | (simp only [Sto.get_add, Sto.get_set, Sto.get_del, Sto.get_none, Sto.next_add, Sto.next_set, Sto.next_del, Sto.next_none]; omega)) (fun i hi => ?_) (fun i o hi ho => ?_)
    · (try simp only [Sto.get_add, Sto.get_set, Sto.get_del, Sto.get_none, Sto.next_add, Sto.next_set, Sto.next_del, Sto.next_none] at hi ⊢); ((repeat' split) <;> first | exact .inl rfl | exact .inr rfl | omega | (simp_all; done))
    · (try simp only [Sto.get_add, Sto.get_set, Sto.get_del, Sto.get_none, Sto.next_add, Sto.next_set, Sto.next_del, Sto.next_none] at hi ho ⊢); ((repeat' split at ho) <;> (repeat' split) <;> first | (exact ⟨ho, .inl ho⟩) | (cases ho; done) | omega | (cases ho; refine ⟨rfl, .inl rfl⟩) | (cases ho; refine ⟨rfl, .inr ?_⟩; simp only [go_sem, seval, reduceCtorEq, hwn]; first | done | omega | (refine ⟨?_, ?_⟩ <;> omega)) | (simp_all; done))
  | true =>
    have hf' : decide (nodesR 60 (fmlC c) ≤ 60) = true := hf
    rw [hf'] at hfe
    have e : fmlR c = (fmlC c, 0) := by unfold fmlR; rw [hv, hf]; rfl
    try simp only [go_sem, seval, reduceCtorEq, hwn, hfe, e]
    repeat (first | refine WK.blockSeq ?_ | refine WK.blockCond ?_ | refine WK.blockReg ?_ | (refine WK.condT ?_ ?_; (focus (simp only [go_sem, seval, reduceCtorEq, hwn, hfe, e]; done))) | (refine WK.condF ?_ ?_; (focus (simp only [go_sem, seval, reduceCtorEq, hwn, hfe, e]; done))) | refine WK.seq ?_ | ((first | refine WK.reg ?_ | refine WK.skip ?_ | refine WK.ret ?_ | refine WK.exit ?_); simp only [go_sem, seval, reduceCtorEq, hwn, hfe, e]) | ((with_reducible refine And.intro ?_ ?_); omega) | omega)
    refine callK_pureL (own_ok (gl := gl) (fmlC c) (shor_of _ (by have := ((validF_iff _ _).1 hfe).2.2.1; omega))) rfl ?_ ?_ ?_ <;> simp only [go_sem, seval, reduceCtorEq, hwn, encF_eq]
    try simp only [go_sem, seval, reduceCtorEq, hwn]
    repeat (first | refine WK.blockSeq ?_ | refine WK.blockCond ?_ | refine WK.blockReg ?_ | (refine WK.condT ?_ ?_; (focus (simp only [go_sem, seval, reduceCtorEq, hwn]; done))) | (refine WK.condF ?_ ?_; (focus (simp only [go_sem, seval, reduceCtorEq, hwn]; done))) | refine WK.seq ?_ | ((first | refine WK.reg ?_ | refine WK.skip ?_ | refine WK.ret ?_ | refine WK.exit ?_); simp only [go_sem, seval, reduceCtorEq, hwn]) | ((with_reducible refine And.intro ?_ ?_); omega) | omega)
    refine Cut.by' (by first | exact Nat.le_refl _ | (simp only [Sto.get_add, Sto.get_set, Sto.get_del, Sto.get_none, Sto.next_add, Sto.next_set, Sto.next_del, Sto.next_none]; omega)) (by first | exact Nat.le_refl _ | (simp only [Sto.get_add, Sto.get_set, Sto.get_del, Sto.get_none, Sto.next_add, Sto.next_set, Sto.next_del, Sto.next_none]; omega)) (fun i hi => ?_) (fun i o hi ho => ?_)
    · (try simp only [Sto.get_add, Sto.get_set, Sto.get_del, Sto.get_none, Sto.next_add, Sto.next_set, Sto.next_del, Sto.next_none] at hi ⊢); ((repeat' split) <;> first | exact .inl rfl | exact .inr rfl | omega | (simp_all; done))
    · (try simp only [Sto.get_add, Sto.get_set, Sto.get_del, Sto.get_none, Sto.next_add, Sto.next_set, Sto.next_del, Sto.next_none] at hi ho ⊢); ((repeat' split at ho) <;> (repeat' split) <;> first | (exact ⟨ho, .inl ho⟩) | (cases ho; done) | omega | (cases ho; refine ⟨rfl, .inl rfl⟩) | (cases ho; refine ⟨rfl, .inr ?_⟩; simp only [go_sem, seval, reduceCtorEq, hwn]; first | done | omega | (refine ⟨?_, ?_⟩ <;> omega)) | (simp_all; done))
theorem gspec_ok (c : Ct) (hs : ShrtC c) (hj : c.je.length < 1000000) (hj2 : c.js.length < 1000000) : PCall (C gl) 31 [encC c] (.tup [if (fmlR c).2 = 0 then encS c.inn c.out [] [(fmlR c).1] else encS 0 0 [] [], .int .i64 (fmlR c).2]) := by
  refine pcallX (callX_of b31 (by simp [Tryd.ntmps31]) ?_) (by simp only [AllCl, cl_encC, and_true]) (by simp only [cl_tup, AllCl, cl_int, and_true]; split <;> simp only [cl_encS])
  refine W.of ?_
  rw [Tryd.ntmps31]
  simp only [toK, codeOf, Tryd.f31, go_sem, seval, reduceCtorEq]
  try simp only [go_sem, seval, reduceCtorEq, ctCells]
  repeat (first | refine WK.blockSeq ?_ | refine WK.blockCond ?_ | refine WK.blockReg ?_ | (refine WK.condT ?_ ?_; (focus (simp only [go_sem, seval, reduceCtorEq, ctCells]; done))) | (refine WK.condF ?_ ?_; (focus (simp only [go_sem, seval, reduceCtorEq, ctCells]; done))) | refine WK.seq ?_ | ((first | refine WK.reg ?_ | refine WK.skip ?_ | refine WK.ret ?_ | refine WK.exit ?_); simp only [go_sem, seval, reduceCtorEq, ctCells]) | ((with_reducible refine And.intro ?_ ?_); omega) | omega)
  refine callK_pureL (gformula_ok (gl := gl) har c hs hj hj2) rfl ?_ ?_ ?_ <;> simp only [go_sem, seval, reduceCtorEq, ctCells, encF_eq]
  generalize fmlR c = r
  obtain ⟨f, e⟩ := r
  try simp only [go_sem, seval, reduceCtorEq]
  repeat (first | refine WK.blockSeq ?_ | refine WK.blockCond ?_ | refine WK.blockReg ?_ | (refine WK.condT ?_ ?_; (focus (simp only [go_sem, seval, reduceCtorEq]; done))) | (refine WK.condF ?_ ?_; (focus (simp only [go_sem, seval, reduceCtorEq]; done))) | refine WK.seq ?_ | ((first | refine WK.reg ?_ | refine WK.skip ?_ | refine WK.ret ?_ | refine WK.exit ?_); simp only [go_sem, seval, reduceCtorEq]) | ((with_reducible refine And.intro ?_ ?_); omega) | omega)
  cases he : (e == 0) with
  | false =>
    have hne : ¬ e = 0 := by simpa using he
    try simp only [go_sem, seval, reduceCtorEq, bne, he, hne]
    repeat (first | refine WK.blockSeq ?_ | refine WK.blockCond ?_ | refine WK.blockReg ?_ | (refine WK.condT ?_ ?_; (focus (simp only [go_sem, seval, reduceCtorEq, bne, he, hne]; done))) | (refine WK.condF ?_ ?_; (focus (simp only [go_sem, seval, reduceCtorEq, bne, he, hne]; done))) | refine WK.seq ?_ | ((first | refine WK.reg ?_ | refine WK.skip ?_ | refine WK.ret ?_ | refine WK.exit ?_); simp only [go_sem, seval, reduceCtorEq, bne, he, hne]) | ((with_reducible refine And.intro ?_ ?_); omega) | omega)
    refine ⟨⟨AV.le_tup ⟨AV.le_agg ⟨.refl _, .refl _, AV.le_list' _, AV.le_list' _, trivial⟩, .refl _, trivial⟩, Closed.bel (of_eq_true cl_encS)⟩, ?_⟩
    refine Cut.by' (by first | exact Nat.le_refl _ | (simp only [Sto.get_add, Sto.get_set, Sto.get_del, Sto.get_none, Sto.next_add, Sto.next_set, Sto.next_del, Sto.next_none]; omega)) (by first | exact Nat.le_refl _ | (simp only [Sto.get_add, Sto.get_set, Sto.get_del, Sto.get_none, Sto.next_add, Sto.next_set, Sto.next_del, Sto.next_none]; omega)) (fun i hi => ?_) (fun i o hi ho => ?_)
    · (try simp only [Sto.get_add, Sto.get_set, Sto.get_del, Sto.get_none, Sto.next_add, Sto.next_set, Sto.next_del, Sto.next_none] at hi ⊢); ((repeat' split) <;> first | exact .inl rfl | exact .inr rfl | omega | (simp_all; done))
    · (try simp only [Sto.get_add, Sto.get_set, Sto.get_del, Sto.get_none, Sto.next_add, Sto.next_set, Sto.next_del, Sto.next_none] at hi ho ⊢); ((repeat' split at ho) <;> (repeat' split) <;> first | (exact ⟨ho, .inl ho⟩) | (cases ho; done) | omega | (cases ho; refine ⟨rfl, .inl rfl⟩) | (cases ho; refine ⟨rfl, .inr ?_⟩; simp only [go_sem, seval, reduceCtorEq]; first | done | omega | (refine ⟨?_, ?_⟩ <;> omega)) | (simp_all; done))
  | true =>
    have hne : e = 0 := by simpa using he
    subst hne
    try simp only [go_sem, seval, reduceCtorEq, bne]
    repeat (first | refine WK.blockSeq ?_ | refine WK.blockCond ?_ | refine WK.blockReg ?_ | (refine WK.condT ?_ ?_; (focus (simp only [go_sem, seval, reduceCtorEq, bne]; done))) | (refine WK.condF ?_ ?_; (focus (simp only [go_sem, seval, reduceCtorEq, bne]; done))) | refine WK.seq ?_ | ((first | refine WK.reg ?_ | refine WK.skip ?_ | refine WK.ret ?_ | refine WK.exit ?_); simp only [go_sem, seval, reduceCtorEq, bne]) | ((with_reducible refine And.intro ?_ ?_); omega) | omega)
    have hl1 : (AV.list true [.agg [.int .i64 f.op, .int .i64 f.var, .list false (encFs f.args)]]).le (.list false (encFs [f])) := by
      rw [encFs, encFs, encF_eq]; exact AV.le_list' _
    refine ⟨⟨AV.le_tup ⟨AV.le_agg ⟨.refl _, .refl _, AV.le_list' _, hl1, trivial⟩, .refl _, trivial⟩, Closed.bel (of_eq_true cl_encS)⟩, ?_⟩
    refine Cut.by' (by first | exact Nat.le_refl _ | (simp only [Sto.get_add, Sto.get_set, Sto.get_del, Sto.get_none, Sto.next_add, Sto.next_set, Sto.next_del, Sto.next_none]; omega)) (by first | exact Nat.le_refl _ | (simp only [Sto.get_add, Sto.get_set, Sto.get_del, Sto.get_none, Sto.next_add, Sto.next_set, Sto.next_del, Sto.next_none]; omega)) (fun i hi => ?_) (fun i o hi ho => ?_)
    · (try simp only [Sto.get_add, Sto.get_set, Sto.get_del, Sto.get_none, Sto.next_add, Sto.next_set, Sto.next_del, Sto.next_none] at hi ⊢); ((repeat' split) <;> first | exact .inl rfl | exact .inr rfl | omega | (simp_all; done))
    · (try simp only [Sto.get_add, Sto.get_set, Sto.get_del, Sto.get_none, Sto.next_add, Sto.next_set, Sto.next_del, Sto.next_none] at hi ho ⊢); ((repeat' split at ho) <;> (repeat' split) <;> first | (exact ⟨ho, .inl ho⟩) | (cases ho; done) | omega | (cases ho; refine ⟨rfl, .inl rfl⟩) | (cases ho; refine ⟨rfl, .inr ?_⟩; simp only [go_sem, seval, reduceCtorEq]; first | done | omega | (refine ⟨?_, ?_⟩ <;> omega)) | (simp_all; done))
theorem ggood_ok (c : Ct) (l k : Int) (hs : ShrtC c) : PCall (C gl) 29 [encC c, .int .i64 l, .int .i64 k] (.tup [.bool (goodR c l k).1, .bool (goodR c l k).2.1, .int .i64 (goodR c l k).2.2]) := by
  refine pcallX (callX_of b29 (by simp [Tryd.ntmps29]) ?_) (by simp only [AllCl, cl_encC, cl_int, and_true]) (by simp only [cl_tup, AllCl, cl_bool, cl_int, and_true])
  refine W.of ?_
  rw [Tryd.ntmps29]
  simp only [toK, codeOf, Tryd.f29, go_sem, seval, reduceCtorEq]
  try simp only [go_sem, seval, reduceCtorEq, ctCells]
  repeat (first | refine WK.blockSeq ?_ | refine WK.blockCond ?_ | refine WK.blockReg ?_ | (refine WK.condT ?_ ?_; (focus (simp only [go_sem, seval, reduceCtorEq, ctCells]; done))) | (refine WK.condF ?_ ?_; (focus (simp only [go_sem, seval, reduceCtorEq, ctCells]; done))) | refine WK.seq ?_ | ((first | refine WK.reg ?_ | refine WK.skip ?_ | refine WK.ret ?_ | refine WK.exit ?_); simp only [go_sem, seval, reduceCtorEq, ctCells]) | ((with_reducible refine And.intro ?_ ?_); omega) | omega)
  refine callK_pureL (gvalid_ok (gl := gl) har c hs) rfl ?_ ?_ ?_ <;> simp only [go_sem, seval, reduceCtorEq, ctCells]
  cases hv : validC c with
  | false =>
    have e : goodR c l k = (false, false, 1) := by unfold goodR; rw [hv]; rfl
    try simp only [go_sem, seval, reduceCtorEq, hv, e]
    repeat (first | refine WK.blockSeq ?_ | refine WK.blockCond ?_ | refine WK.blockReg ?_ | (refine WK.condT ?_ ?_; (focus (simp only [go_sem, seval, reduceCtorEq, hv, e]; done))) | (refine WK.condF ?_ ?_; (focus (simp only [go_sem, seval, reduceCtorEq, hv, e]; done))) | refine WK.seq ?_ | ((first | refine WK.reg ?_ | refine WK.skip ?_ | refine WK.ret ?_ | refine WK.exit ?_); simp only [go_sem, seval, reduceCtorEq, hv, e]) | ((with_reducible refine And.intro ?_ ?_); omega) | omega)
    refine Cut.by' (by first | exact Nat.le_refl _ | (simp only [Sto.get_add, Sto.get_set, Sto.get_del, Sto.get_none, Sto.next_add, Sto.next_set, Sto.next_del, Sto.next_none]; omega)) (by first | exact Nat.le_refl _ | (simp only [Sto.get_add, Sto.get_set, Sto.get_del, Sto.get_none, Sto.next_add, Sto.next_set, Sto.next_del, Sto.next_none]; omega)) (fun i hi => ?_) (fun i o hi ho => ?_)
    · (try simp only [Sto.get_add, Sto.get_set, Sto.get_del, Sto.get_none, Sto.next_add, Sto.next_set, Sto.next_del, Sto.next_none] at hi ⊢); ((repeat' split) <;> first | exact .inl rfl | exact .inr rfl | omega | (simp_all; done))
    · (try simp only [Sto.get_add, Sto.get_set, Sto.get_del, Sto.get_none, Sto.next_add, Sto.next_set, Sto.next_del, Sto.next_none] at hi ho ⊢); ((repeat' split at ho) <;> (repeat' split) <;> first | (exact ⟨ho, .inl ho⟩) | (cases ho; done) | omega | (cases ho; refine ⟨rfl, .inl rfl⟩) | (cases ho; refine ⟨rfl, .inr ?_⟩; simp only [go_sem, seval, reduceCtorEq]; first | done | omega | (refine ⟨?_, ?_⟩ <;> omega)) | (simp_all; done))
  | true =>
  obtain ⟨a, b, hc⟩ := valid_ct hv
  have p3 := pow2_le (a := a + b) 6 (by have := hc.a3; have := hc.b3; omega)
  have hin := hc.inn
  have hout := hc.out
  have hw := wrap_add_nat a b (by have := hc.a3; have := hc.b3; omega)
  have hsh := shl_one (a + b) (by have := hc.a3; have := hc.b3; omega)
  have hpw : (2 : Int) ^ (c.inn + c.out).toNat = ((2 ^ (a + b) : Nat) : Int) := by rw [hin, hout, ← Int.natCast_add, Int.toNat_natCast]; simp
  try simp only [go_sem, seval, reduceCtorEq, hin, hout, hw, hsh, hv, ctCells]
  repeat (first | refine WK.blockSeq ?_ | refine WK.blockCond ?_ | refine WK.blockReg ?_ | (refine WK.condT ?_ ?_; (focus (simp only [go_sem, seval, reduceCtorEq, hin, hout, hw, hsh, hv, ctCells]; done))) | (refine WK.condF ?_ ?_; (focus (simp only [go_sem, seval, reduceCtorEq, hin, hout, hw, hsh, hv, ctCells]; done))) | refine WK.seq ?_ | ((first | refine WK.reg ?_ | refine WK.skip ?_ | refine WK.ret ?_ | refine WK.exit ?_); simp only [go_sem, seval, reduceCtorEq, hin, hout, hw, hsh, hv, ctCells]) | ((with_reducible refine And.intro ?_ ?_); omega) | omega)
  by_cases q1 : l < 0
  · have e : goodR c l k = (false, false, 6) := by unfold goodR; rw [if_pos hv, hpw, if_neg (by omega)]
    try simp only [go_sem, seval, reduceCtorEq, hin, hout, hw, hsh, q1, decide_true, e]
    repeat (first | refine WK.blockSeq ?_ | refine WK.blockCond ?_ | refine WK.blockReg ?_ | (refine WK.condT ?_ ?_; (focus (simp only [go_sem, seval, reduceCtorEq, hin, hout, hw, hsh, q1, decide_true, e]; done))) | (refine WK.condF ?_ ?_; (focus (simp only [go_sem, seval, reduceCtorEq, hin, hout, hw, hsh, q1, decide_true, e]; done))) | refine WK.seq ?_ | ((first | refine WK.reg ?_ | refine WK.skip ?_ | refine WK.ret ?_ | refine WK.exit ?_); simp only [go_sem, seval, reduceCtorEq, hin, hout, hw, hsh, q1, decide_true, e]) | ((with_reducible refine And.intro ?_ ?_); omega) | omega)
    refine Cut.by' (by first | exact Nat.le_refl _ | (simp only [Sto.get_add, Sto.get_set, Sto.get_del, Sto.get_none, Sto.next_add, Sto.next_set, Sto.next_del, Sto.next_none]; omega)) (by first | exact Nat.le_refl _ | (simp only [Sto.get_add, Sto.get_set, Sto.get_del, Sto.get_none, Sto.next_add, Sto.next_set, Sto.next_del, Sto.next_none]; omega)) (fun i hi => ?_) (fun i o hi ho => ?_)
    · (try simp only [Sto.get_add, Sto.get_set, Sto.get_del, Sto.get_none, Sto.next_add, Sto.next_set, Sto.next_del, Sto.next_none] at hi ⊢); ((repeat' split) <;> first | exact .inl rfl | exact .inr rfl | omega | (simp_all; done))
    · (try simp only [Sto.get_add, Sto.get_set, Sto.get_del, Sto.get_none, Sto.next_add, Sto.next_set, Sto.next_del, Sto.next_none] at hi ho ⊢); ((repeat' split at ho) <;> (repeat' split) <;> first | (exact ⟨ho, .inl ho⟩) | (cases ho; done) | omega | (cases ho; refine ⟨rfl, .inl rfl⟩) | (cases ho; refine ⟨rfl, .inr ?_⟩; simp only [go_sem, seval, reduceCtorEq, hin, hout, hw, hsh]; first | done | omega | (refine ⟨?_, ?_⟩ <;> omega)) | (simp_all; done))
  by_cases q2 : l ≥ ((2 ^ (a + b) : Nat) : Int)
  · have e : goodR c l k = (false, false, 6) := by unfold goodR; rw [if_pos hv, hpw, if_neg (by omega)]
    try simp only [go_sem, seval, reduceCtorEq, hin, hout, hw, hsh, q1, q2, decide_true, decide_false, e]
    repeat (first | refine WK.blockSeq ?_ | refine WK.blockCond ?_ | refine WK.blockReg ?_ | (refine WK.condT ?_ ?_; (focus (simp only [go_sem, seval, reduceCtorEq, hin, hout, hw, hsh, q1, q2, decide_true, decide_false, e]; done))) | (refine WK.condF ?_ ?_; (focus (simp only [go_sem, seval, reduceCtorEq, hin, hout, hw, hsh, q1, q2, decide_true, decide_false, e]; done))) | refine WK.seq ?_ | ((first | refine WK.reg ?_ | refine WK.skip ?_ | refine WK.ret ?_ | refine WK.exit ?_); simp only [go_sem, seval, reduceCtorEq, hin, hout, hw, hsh, q1, q2, decide_true, decide_false, e]) | ((with_reducible refine And.intro ?_ ?_); omega) | omega)
    refine Cut.by' (by first | exact Nat.le_refl _ | (simp only [Sto.get_add, Sto.get_set, Sto.get_del, Sto.get_none, Sto.next_add, Sto.next_set, Sto.next_del, Sto.next_none]; omega)) (by first | exact Nat.le_refl _ | (simp only [Sto.get_add, Sto.get_set, Sto.get_del, Sto.get_none, Sto.next_add, Sto.next_set, Sto.next_del, Sto.next_none]; omega)) (fun i hi => ?_) (fun i o hi ho => ?_)
    · (try simp only [Sto.get_add, Sto.get_set, Sto.get_del, Sto.get_none, Sto.next_add, Sto.next_set, Sto.next_del, Sto.next_none] at hi ⊢); ((repeat' split) <;> first | exact .inl rfl | exact .inr rfl | omega | (simp_all; done))
    · (try simp only [Sto.get_add, Sto.get_set, Sto.get_del, Sto.get_none, Sto.next_add, Sto.next_set, Sto.next_del, Sto.next_none] at hi ho ⊢); ((repeat' split at ho) <;> (repeat' split) <;> first | (exact ⟨ho, .inl ho⟩) | (cases ho; done) | omega | (cases ho; refine ⟨rfl, .inl rfl⟩) | (cases ho; refine ⟨rfl, .inr ?_⟩; simp only [go_sem, seval, reduceCtorEq, hin, hout, hw, hsh]; first | done | omega | (refine ⟨?_, ?_⟩ <;> omega)) | (simp_all; done))
  by_cases q3 : k < 0
  · have e : goodR c l k = (false, false, 6) := by unfold goodR; rw [if_pos hv, hpw, if_neg (by omega)]
    try simp only [go_sem, seval, reduceCtorEq, hin, hout, hw, hsh, q1, q2, q3, decide_true, decide_false, e]
    repeat (first | refine WK.blockSeq ?_ | refine WK.blockCond ?_ | refine WK.blockReg ?_ | (refine WK.condT ?_ ?_; (focus (simp only [go_sem, seval, reduceCtorEq, hin, hout, hw, hsh, q1, q2, q3, decide_true, decide_false, e]; done))) | (refine WK.condF ?_ ?_; (focus (simp only [go_sem, seval, reduceCtorEq, hin, hout, hw, hsh, q1, q2, q3, decide_true, decide_false, e]; done))) | refine WK.seq ?_ | ((first | refine WK.reg ?_ | refine WK.skip ?_ | refine WK.ret ?_ | refine WK.exit ?_); simp only [go_sem, seval, reduceCtorEq, hin, hout, hw, hsh, q1, q2, q3, decide_true, decide_false, e]) | ((with_reducible refine And.intro ?_ ?_); omega) | omega)
    refine Cut.by' (by first | exact Nat.le_refl _ | (simp only [Sto.get_add, Sto.get_set, Sto.get_del, Sto.get_none, Sto.next_add, Sto.next_set, Sto.next_del, Sto.next_none]; omega)) (by first | exact Nat.le_refl _ | (simp only [Sto.get_add, Sto.get_set, Sto.get_del, Sto.get_none, Sto.next_add, Sto.next_set, Sto.next_del, Sto.next_none]; omega)) (fun i hi => ?_) (fun i o hi ho => ?_)
    · (try simp only [Sto.get_add, Sto.get_set, Sto.get_del, Sto.get_none, Sto.next_add, Sto.next_set, Sto.next_del, Sto.next_none] at hi ⊢); ((repeat' split) <;> first | exact .inl rfl | exact .inr rfl | omega | (simp_all; done))
    · (try simp only [Sto.get_add, Sto.get_set, Sto.get_del, Sto.get_none, Sto.next_add, Sto.next_set, Sto.next_del, Sto.next_none] at hi ho ⊢); ((repeat' split at ho) <;> (repeat' split) <;> first | (exact ⟨ho, .inl ho⟩) | (cases ho; done) | omega | (cases ho; refine ⟨rfl, .inl rfl⟩) | (cases ho; refine ⟨rfl, .inr ?_⟩; simp only [go_sem, seval, reduceCtorEq, hin, hout, hw, hsh]; first | done | omega | (refine ⟨?_, ?_⟩ <;> omega)) | (simp_all; done))
  by_cases q4 : k ≥ ((2 ^ (a + b) : Nat) : Int)
  · have e : goodR c l k = (false, false, 6) := by unfold goodR; rw [if_pos hv, hpw, if_neg (by omega)]
    try simp only [go_sem, seval, reduceCtorEq, hin, hout, hw, hsh, q1, q2, q3, q4, decide_true, decide_false, e]
    repeat (first | refine WK.blockSeq ?_ | refine WK.blockCond ?_ | refine WK.blockReg ?_ | (refine WK.condT ?_ ?_; (focus (simp only [go_sem, seval, reduceCtorEq, hin, hout, hw, hsh, q1, q2, q3, q4, decide_true, decide_false, e]; done))) | (refine WK.condF ?_ ?_; (focus (simp only [go_sem, seval, reduceCtorEq, hin, hout, hw, hsh, q1, q2, q3, q4, decide_true, decide_false, e]; done))) | refine WK.seq ?_ | ((first | refine WK.reg ?_ | refine WK.skip ?_ | refine WK.ret ?_ | refine WK.exit ?_); simp only [go_sem, seval, reduceCtorEq, hin, hout, hw, hsh, q1, q2, q3, q4, decide_true, decide_false, e]) | ((with_reducible refine And.intro ?_ ?_); omega) | omega)
    refine Cut.by' (by first | exact Nat.le_refl _ | (simp only [Sto.get_add, Sto.get_set, Sto.get_del, Sto.get_none, Sto.next_add, Sto.next_set, Sto.next_del, Sto.next_none]; omega)) (by first | exact Nat.le_refl _ | (simp only [Sto.get_add, Sto.get_set, Sto.get_del, Sto.get_none, Sto.next_add, Sto.next_set, Sto.next_del, Sto.next_none]; omega)) (fun i hi => ?_) (fun i o hi ho => ?_)
    · (try simp only [Sto.get_add, Sto.get_set, Sto.get_del, Sto.get_none, Sto.next_add, Sto.next_set, Sto.next_del, Sto.next_none] at hi ⊢); ((repeat' split) <;> first | exact .inl rfl | exact .inr rfl | omega | (simp_all; done))
    · (try simp only [Sto.get_add, Sto.get_set, Sto.get_del, Sto.get_none, Sto.next_add, Sto.next_set, Sto.next_del, Sto.next_none] at hi ho ⊢); ((repeat' split at ho) <;> (repeat' split) <;> first | (exact ⟨ho, .inl ho⟩) | (cases ho; done) | omega | (cases ho; refine ⟨rfl, .inl rfl⟩) | (cases ho; refine ⟨rfl, .inr ?_⟩; simp only [go_sem, seval, reduceCtorEq, hin, hout, hw, hsh]; first | done | omega | (refine ⟨?_, ?_⟩ <;> omega)) | (simp_all; done))
  have e : goodR c l k = (holdsF l k c.se, holdsF l k c.ss, 0) := by unfold goodR; rw [if_pos hv, hpw, if_pos (by omega)]
  try simp only [go_sem, seval, reduceCtorEq, hin, hout, hw, hsh, q1, q2, q3, q4, decide_true, decide_false, e]
  repeat (first | refine WK.blockSeq ?_ | refine WK.blockCond ?_ | refine WK.blockReg ?_ | (refine WK.condT ?_ ?_; (focus (simp only [go_sem, seval, reduceCtorEq, hin, hout, hw, hsh, q1, q2, q3, q4, decide_true, decide_false, e]; done))) | (refine WK.condF ?_ ?_; (focus (simp only [go_sem, seval, reduceCtorEq, hin, hout, hw, hsh, q1, q2, q3, q4, decide_true, decide_false, e]; done))) | refine WK.seq ?_ | ((first | refine WK.reg ?_ | refine WK.skip ?_ | refine WK.ret ?_ | refine WK.exit ?_); simp only [go_sem, seval, reduceCtorEq, hin, hout, hw, hsh, q1, q2, q3, q4, decide_true, decide_false, e]) | ((with_reducible refine And.intro ?_ ?_); omega) | omega)
  refine WK.draw [⟨false, 0, 0⟩, ⟨false, 0, 0⟩, ⟨false, 0, 0⟩, ⟨false, 0, 0⟩, ⟨true, 0, 0⟩, ⟨false, 0, 0⟩, ⟨false, 1, 0⟩, ⟨false, 0, 0⟩, ⟨false, 0, 0⟩, ⟨true, 0, 0⟩, ⟨false, 0, 0⟩, ⟨false, 0, 0⟩, ⟨false, 0, 0⟩] mixed (by kernel_rfl) ?_
  simp only [go_sem, seval, reduceCtorEq, hin, hout, hw, hsh]
  refine callD_pure (holds_ok (gl := gl) l k c.se hc.se) rfl ?_ ?_ ?_ <;> simp only [go_sem, seval, reduceCtorEq, hin, hout, hw, hsh, encF_eq]
  refine callD_pure (holds_ok (gl := gl) l k c.ss hc.ss) rfl ?_ ?_ ?_ <;> simp only [go_sem, seval, reduceCtorEq, hin, hout, hw, hsh, encF_eq]
  try simp only [go_sem, seval, reduceCtorEq, hin, hout, hw, hsh]
  repeat (first | refine WK.blockSeq ?_ | refine WK.blockCond ?_ | refine WK.blockReg ?_ | (refine WK.condT ?_ ?_; (focus (simp only [go_sem, seval, reduceCtorEq, hin, hout, hw, hsh]; done))) | (refine WK.condF ?_ ?_; (focus (simp only [go_sem, seval, reduceCtorEq, hin, hout, hw, hsh]; done))) | refine WK.seq ?_ | ((first | refine WK.reg ?_ | refine WK.skip ?_ | refine WK.ret ?_ | refine WK.exit ?_); simp only [go_sem, seval, reduceCtorEq, hin, hout, hw, hsh]) | ((with_reducible refine And.intro ?_ ?_); omega) | omega)
  refine Cut.by' (by first | exact Nat.le_refl _ | (simp only [Sto.get_add, Sto.get_set, Sto.get_del, Sto.get_none, Sto.next_add, Sto.next_set, Sto.next_del, Sto.next_none]; omega)) (by first | exact Nat.le_refl _ | (simp only [Sto.get_add, Sto.get_set, Sto.get_del, Sto.get_none, Sto.next_add, Sto.next_set, Sto.next_del, Sto.next_none]; omega)) (fun i hi => ?_) (fun i o hi ho => ?_)
  · (try simp only [Sto.get_add, Sto.get_set, Sto.get_del, Sto.get_none, Sto.next_add, Sto.next_set, Sto.next_del, Sto.next_none] at hi ⊢); ((repeat' split) <;> first | exact .inl rfl | exact .inr rfl | omega | (simp_all; done))
  · (try simp only [Sto.get_add, Sto.get_set, Sto.get_del, Sto.get_none, Sto.next_add, Sto.next_set, Sto.next_del, Sto.next_none] at hi ho ⊢); ((repeat' split at ho) <;> (repeat' split) <;> first | (exact ⟨ho, .inl ho⟩) | (cases ho; done) | omega | (cases ho; refine ⟨rfl, .inl rfl⟩) | (cases ho; refine ⟨rfl, .inr ?_⟩; simp only [go_sem, seval, reduceCtorEq, hin, hout, hw, hsh]; first | done | omega | (refine ⟨?_, ?_⟩ <;> omega)) | (simp_all; done))
omit har in
theorem rgood_ok (c : Ct) (l k : Int) (hs : ShrtC c) : PCall (C gl) 30 [encC c, .int .i64 l, .int .i64 k] (.tup [.bool (goodR c l k).1, .bool (goodR c l k).2.1, .int .i64 (goodR c l k).2.2]) := by
  refine pcallX (callX_of b30 (by simp [Tryd.ntmps30]) ?_) (by simp only [AllCl, cl_encC, cl_int, and_true]) (by simp only [cl_tup, AllCl, cl_bool, cl_int, and_true])
  refine W.of ?_
  rw [Tryd.ntmps30]
  simp only [toK, codeOf, Tryd.f30, go_sem, seval, reduceCtorEq]
  try simp only [go_sem, seval, reduceCtorEq, ctCells]
  repeat (first | refine WK.blockSeq ?_ | refine WK.blockCond ?_ | refine WK.blockReg ?_ | (refine WK.condT ?_ ?_; (focus (simp only [go_sem, seval, reduceCtorEq, ctCells]; done))) | (refine WK.condF ?_ ?_; (focus (simp only [go_sem, seval, reduceCtorEq, ctCells]; done))) | refine WK.seq ?_ | ((first | refine WK.reg ?_ | refine WK.skip ?_ | refine WK.ret ?_ | refine WK.exit ?_); simp only [go_sem, seval, reduceCtorEq, ctCells]) | ((with_reducible refine And.intro ?_ ?_); omega) | omega)
  refine callK_pureL (rvalid_ok (gl := gl) c hs) rfl ?_ ?_ ?_ <;> simp only [go_sem, seval, reduceCtorEq, rvalC_eq, ctCells]
  cases hv : validC c with
  | false =>
    have e : goodR c l k = (false, false, 1) := by unfold goodR; rw [hv]; rfl
    try simp only [go_sem, seval, reduceCtorEq, hv, e]
    repeat (first | refine WK.blockSeq ?_ | refine WK.blockCond ?_ | refine WK.blockReg ?_ | (refine WK.condT ?_ ?_; (focus (simp only [go_sem, seval, reduceCtorEq, hv, e]; done))) | (refine WK.condF ?_ ?_; (focus (simp only [go_sem, seval, reduceCtorEq, hv, e]; done))) | refine WK.seq ?_ | ((first | refine WK.reg ?_ | refine WK.skip ?_ | refine WK.ret ?_ | refine WK.exit ?_); simp only [go_sem, seval, reduceCtorEq, hv, e]) | ((with_reducible refine And.intro ?_ ?_); omega) | omega)
    refine Cut.by' (by first | exact Nat.le_refl _ | (simp only [Sto.get_add, Sto.get_set, Sto.get_del, Sto.get_none, Sto.next_add, Sto.next_set, Sto.next_del, Sto.next_none]; omega)) (by first | exact Nat.le_refl _ | (simp only [Sto.get_add, Sto.get_set, Sto.get_del, Sto.get_none, Sto.next_add, Sto.next_set, Sto.next_del, Sto.next_none]; omega)) (fun i hi => ?_) (fun i o hi ho => ?_)
    · (try simp only [Sto.get_add, Sto.get_set, Sto.get_del, Sto.get_none, Sto.next_add, Sto.next_set, Sto.next_del, Sto.next_none] at hi ⊢); ((repeat' split) <;> first | exact .inl rfl | exact .inr rfl | omega | (simp_all; done))
    · (try simp only [Sto.get_add, Sto.get_set, Sto.get_del, Sto.get_none, Sto.next_add, Sto.next_set, Sto.next_del, Sto.next_none] at hi ho ⊢); ((repeat' split at ho) <;> (repeat' split) <;> first | (exact ⟨ho, .inl ho⟩) | (cases ho; done) | omega | (cases ho; refine ⟨rfl, .inl rfl⟩) | (cases ho; refine ⟨rfl, .inr ?_⟩; simp only [go_sem, seval, reduceCtorEq]; first | done | omega | (refine ⟨?_, ?_⟩ <;> omega)) | (simp_all; done))
  | true =>
  obtain ⟨a, b, hc⟩ := valid_ct hv
  have p3 := pow2_le (a := a + b) 6 (by have := hc.a3; have := hc.b3; omega)
  have hin := hc.inn
  have hout := hc.out
  have hw := wrap_add_nat a b (by have := hc.a3; have := hc.b3; omega)
  have hsh := shl_one (a + b) (by have := hc.a3; have := hc.b3; omega)
  have hpw : (2 : Int) ^ (c.inn + c.out).toNat = ((2 ^ (a + b) : Nat) : Int) := by rw [hin, hout, ← Int.natCast_add, Int.toNat_natCast]; simp
  try simp only [go_sem, seval, reduceCtorEq, hin, hout, hw, hsh, hv, ctCells]
  repeat (first | refine WK.blockSeq ?_ | refine WK.blockCond ?_ | refine WK.blockReg ?_ | (refine WK.condT ?_ ?_; (focus (simp only [go_sem, seval, reduceCtorEq, hin, hout, hw, hsh, hv, ctCells]; done))) | (refine WK.condF ?_ ?_; (focus (simp only [go_sem, seval, reduceCtorEq, hin, hout, hw, hsh, hv, ctCells]; done))) | refine WK.seq ?_ | ((first | refine WK.reg ?_ | refine WK.skip ?_ | refine WK.ret ?_ | refine WK.exit ?_); simp only [go_sem, seval, reduceCtorEq, hin, hout, hw, hsh, hv, ctCells]) | ((with_reducible refine And.intro ?_ ?_); omega) | omega)
  by_cases q1 : l < 0
  · have e : goodR c l k = (false, false, 6) := by unfold goodR; rw [if_pos hv, hpw, if_neg (by omega)]
    try simp only [go_sem, seval, reduceCtorEq, hin, hout, hw, hsh, q1, decide_true, e]
    repeat (first | refine WK.blockSeq ?_ | refine WK.blockCond ?_ | refine WK.blockReg ?_ | (refine WK.condT ?_ ?_; (focus (simp only [go_sem, seval, reduceCtorEq, hin, hout, hw, hsh, q1, decide_true, e]; done))) | (refine WK.condF ?_ ?_; (focus (simp only [go_sem, seval, reduceCtorEq, hin, hout, hw, hsh, q1, decide_true, e]; done))) | refine WK.seq ?_ | ((first | refine WK.reg ?_ | refine WK.skip ?_ | refine WK.ret ?_ | refine WK.exit ?_); simp only [go_sem, seval, reduceCtorEq, hin, hout, hw, hsh, q1, decide_true, e]) | ((with_reducible refine And.intro ?_ ?_); omega) | omega)
    refine Cut.by' (by first | exact Nat.le_refl _ | (simp only [Sto.get_add, Sto.get_set, Sto.get_del, Sto.get_none, Sto.next_add, Sto.next_set, Sto.next_del, Sto.next_none]; omega)) (by first | exact Nat.le_refl _ | (simp only [Sto.get_add, Sto.get_set, Sto.get_del, Sto.get_none, Sto.next_add, Sto.next_set, Sto.next_del, Sto.next_none]; omega)) (fun i hi => ?_) (fun i o hi ho => ?_)
    · (try simp only [Sto.get_add, Sto.get_set, Sto.get_del, Sto.get_none, Sto.next_add, Sto.next_set, Sto.next_del, Sto.next_none] at hi ⊢); ((repeat' split) <;> first | exact .inl rfl | exact .inr rfl | omega | (simp_all; done))
    · (try simp only [Sto.get_add, Sto.get_set, Sto.get_del, Sto.get_none, Sto.next_add, Sto.next_set, Sto.next_del, Sto.next_none] at hi ho ⊢); ((repeat' split at ho) <;> (repeat' split) <;> first | (exact ⟨ho, .inl ho⟩) | (cases ho; done) | omega | (cases ho; refine ⟨rfl, .inl rfl⟩) | (cases ho; refine ⟨rfl, .inr ?_⟩; simp only [go_sem, seval, reduceCtorEq, hin, hout, hw, hsh]; first | done | omega | (refine ⟨?_, ?_⟩ <;> omega)) | (simp_all; done))
  by_cases q2 : l ≥ ((2 ^ (a + b) : Nat) : Int)
  · have e : goodR c l k = (false, false, 6) := by unfold goodR; rw [if_pos hv, hpw, if_neg (by omega)]
    try simp only [go_sem, seval, reduceCtorEq, hin, hout, hw, hsh, q1, q2, decide_true, decide_false, e]
    repeat (first | refine WK.blockSeq ?_ | refine WK.blockCond ?_ | refine WK.blockReg ?_ | (refine WK.condT ?_ ?_; (focus (simp only [go_sem, seval, reduceCtorEq, hin, hout, hw, hsh, q1, q2, decide_true, decide_false, e]; done))) | (refine WK.condF ?_ ?_; (focus (simp only [go_sem, seval, reduceCtorEq, hin, hout, hw, hsh, q1, q2, decide_true, decide_false, e]; done))) | refine WK.seq ?_ | ((first | refine WK.reg ?_ | refine WK.skip ?_ | refine WK.ret ?_ | refine WK.exit ?_); simp only [go_sem, seval, reduceCtorEq, hin, hout, hw, hsh, q1, q2, decide_true, decide_false, e]) | ((with_reducible refine And.intro ?_ ?_); omega) | omega)
    refine Cut.by' (by first | exact Nat.le_refl _ | (simp only [Sto.get_add, Sto.get_set, Sto.get_del, Sto.get_none, Sto.next_add, Sto.next_set, Sto.next_del, Sto.next_none]; omega)) (by first | exact Nat.le_refl _ | (simp only [Sto.get_add, Sto.get_set, Sto.get_del, Sto.get_none, Sto.next_add, Sto.next_set, Sto.next_del, Sto.next_none]; omega)) (fun i hi => ?_) (fun i o hi ho => ?_)
    · (try simp only [Sto.get_add, Sto.get_set, Sto.get_del, Sto.get_none, Sto.next_add, Sto.next_set, Sto.next_del, Sto.next_none] at hi ⊢); ((repeat' split) <;> first | exact .inl rfl | exact .inr rfl | omega | (simp_all; done))
    · (try simp only [Sto.get_add, Sto.get_set, Sto.get_del, Sto.get_none, Sto.next_add, Sto.next_set, Sto.next_del, Sto.next_none] at hi ho ⊢); ((repeat' split at ho) <;> (repeat' split) <;> first | (exact ⟨ho, .inl ho⟩) | (cases ho; done) | omega | (cases ho; refine ⟨rfl, .inl rfl⟩) | (cases ho; refine ⟨rfl, .inr ?_⟩; simp only [go_sem, seval, reduceCtorEq, hin, hout, hw, hsh]; first | done | omega | (refine ⟨?_, ?_⟩ <;> omega)) | (simp_all; done))
  by_cases q3 : k < 0
  · have e : goodR c l k = (false, false, 6) := by unfold goodR; rw [if_pos hv, hpw, if_neg (by omega)]
    try simp only [go_sem, seval, reduceCtorEq, hin, hout, hw, hsh, q1, q2, q3, decide_true, decide_false, e]
    repeat (first | refine WK.blockSeq ?_ | refine WK.blockCond ?_ | refine WK.blockReg ?_ | (refine WK.condT ?_ ?_; (focus (simp only [go_sem, seval, reduceCtorEq, hin, hout, hw, hsh, q1, q2, q3, decide_true, decide_false, e]; done))) | (refine WK.condF ?_ ?_; (focus (simp only [go_sem, seval, reduceCtorEq, hin, hout, hw, hsh, q1, q2, q3, decide_true, decide_false, e]; done))) | refine WK.seq ?_ | ((first | refine WK.reg ?_ | refine WK.skip ?_ | refine WK.ret ?_ | refine WK.exit ?_); simp only [go_sem, seval, reduceCtorEq, hin, hout, hw, hsh, q1, q2, q3, decide_true, decide_false, e]) | ((with_reducible refine And.intro ?_ ?_); omega) | omega)
    refine Cut.by' (by first | exact Nat.le_refl _ | (simp only [Sto.get_add, Sto.get_set, Sto.get_del, Sto.get_none, Sto.next_add, Sto.next_set, Sto.next_del, Sto.next_none]; omega)) (by first | exact Nat.le_refl _ | (simp only [Sto.get_add, Sto.get_set, Sto.get_del, Sto.get_none, Sto.next_add, Sto.next_set, Sto.next_del, Sto.next_none]; omega)) (fun i hi => ?_) (fun i o hi ho => ?_)
    · (try simp only [Sto.get_add, Sto.get_set, Sto.get_del, Sto.get_none, Sto.next_add, Sto.next_set, Sto.next_del, Sto.next_none] at hi ⊢); ((repeat' split) <;> first | exact .inl rfl | exact .inr rfl | omega | (simp_all; done))
    · (try simp only [Sto.get_add, Sto.get_set, Sto.get_del, Sto.get_none, Sto.next_add, Sto.next_set, Sto.next_del, Sto.next_none] at hi ho ⊢); ((repeat' split at ho) <;> (repeat' split) <;> first | (exact ⟨ho, .inl ho⟩) | (cases ho; done) | omega | (cases ho; refine ⟨rfl, .inl rfl⟩) | (cases ho; refine ⟨rfl, .inr ?_⟩; simp only [go_sem, seval, reduceCtorEq, hin, hout, hw, hsh]; first | done | omega | (refine ⟨?_, ?_⟩ <;> omega)) | (simp_all; done))
  by_cases q4 : k ≥ ((2 ^ (a + b) : Nat) : Int)
  · have e : goodR c l k = (false, false, 6) := by unfold goodR; rw [if_pos hv, hpw, if_neg (by omega)]
    try simp only [go_sem, seval, reduceCtorEq, hin, hout, hw, hsh, q1, q2, q3, q4, decide_true, decide_false, e]
    repeat (first | refine WK.blockSeq ?_ | refine WK.blockCond ?_ | refine WK.blockReg ?_ | (refine WK.condT ?_ ?_; (focus (simp only [go_sem, seval, reduceCtorEq, hin, hout, hw, hsh, q1, q2, q3, q4, decide_true, decide_false, e]; done))) | (refine WK.condF ?_ ?_; (focus (simp only [go_sem, seval, reduceCtorEq, hin, hout, hw, hsh, q1, q2, q3, q4, decide_true, decide_false, e]; done))) | refine WK.seq ?_ | ((first | refine WK.reg ?_ | refine WK.skip ?_ | refine WK.ret ?_ | refine WK.exit ?_); simp only [go_sem, seval, reduceCtorEq, hin, hout, hw, hsh, q1, q2, q3, q4, decide_true, decide_false, e]) | ((with_reducible refine And.intro ?_ ?_); omega) | omega)
    refine Cut.by' (by first | exact Nat.le_refl _ | (simp only [Sto.get_add, Sto.get_set, Sto.get_del, Sto.get_none, Sto.next_add, Sto.next_set, Sto.next_del, Sto.next_none]; omega)) (by first | exact Nat.le_refl _ | (simp only [Sto.get_add, Sto.get_set, Sto.get_del, Sto.get_none, Sto.next_add, Sto.next_set, Sto.next_del, Sto.next_none]; omega)) (fun i hi => ?_) (fun i o hi ho => ?_)
    · (try simp only [Sto.get_add, Sto.get_set, Sto.get_del, Sto.get_none, Sto.next_add, Sto.next_set, Sto.next_del, Sto.next_none] at hi ⊢); ((repeat' split) <;> first | exact .inl rfl | exact .inr rfl | omega | (simp_all; done))
    · (try simp only [Sto.get_add, Sto.get_set, Sto.get_del, Sto.get_none, Sto.next_add, Sto.next_set, Sto.next_del, Sto.next_none] at hi ho ⊢); ((repeat' split at ho) <;> (repeat' split) <;> first | (exact ⟨ho, .inl ho⟩) | (cases ho; done) | omega | (cases ho; refine ⟨rfl, .inl rfl⟩) | (cases ho; refine ⟨rfl, .inr ?_⟩; simp only [go_sem, seval, reduceCtorEq, hin, hout, hw, hsh]; first | done | omega | (refine ⟨?_, ?_⟩ <;> omega)) | (simp_all; done))
  have e : goodR c l k = (holdsF l k c.se, holdsF l k c.ss, 0) := by unfold goodR; rw [if_pos hv, hpw, if_pos (by omega)]
  try simp only [go_sem, seval, reduceCtorEq, hin, hout, hw, hsh, q1, q2, q3, q4, decide_true, decide_false, e]
  repeat (first | refine WK.blockSeq ?_ | refine WK.blockCond ?_ | refine WK.blockReg ?_ | (refine WK.condT ?_ ?_; (focus (simp only [go_sem, seval, reduceCtorEq, hin, hout, hw, hsh, q1, q2, q3, q4, decide_true, decide_false, e]; done))) | (refine WK.condF ?_ ?_; (focus (simp only [go_sem, seval, reduceCtorEq, hin, hout, hw, hsh, q1, q2, q3, q4, decide_true, decide_false, e]; done))) | refine WK.seq ?_ | ((first | refine WK.reg ?_ | refine WK.skip ?_ | refine WK.ret ?_ | refine WK.exit ?_); simp only [go_sem, seval, reduceCtorEq, hin, hout, hw, hsh, q1, q2, q3, q4, decide_true, decide_false, e]) | ((with_reducible refine And.intro ?_ ?_); omega) | omega)
  refine WK.draw [⟨false, 0, 0⟩, ⟨false, 0, 0⟩, ⟨false, 0, 0⟩, ⟨false, 0, 0⟩, ⟨true, 0, 0⟩, ⟨false, 0, 0⟩, ⟨false, 1, 0⟩, ⟨false, 0, 0⟩, ⟨false, 0, 0⟩, ⟨true, 0, 0⟩, ⟨false, 0, 0⟩, ⟨false, 0, 0⟩, ⟨false, 0, 0⟩] mixed (by kernel_rfl) ?_
  simp only [go_sem, seval, reduceCtorEq, hin, hout, hw, hsh]
  refine callD_pure (true_ok (gl := gl) c.se hc.tse l k) rfl ?_ ?_ ?_ <;> simp only [go_sem, seval, reduceCtorEq, hin, hout, hw, hsh, encF_eq]
  refine callD_pure (true_ok (gl := gl) c.ss hc.tss l k) rfl ?_ ?_ ?_ <;> simp only [go_sem, seval, reduceCtorEq, hin, hout, hw, hsh, encF_eq]
  try simp only [go_sem, seval, reduceCtorEq, hin, hout, hw, hsh]
  repeat (first | refine WK.blockSeq ?_ | refine WK.blockCond ?_ | refine WK.blockReg ?_ | (refine WK.condT ?_ ?_; (focus (simp only [go_sem, seval, reduceCtorEq, hin, hout, hw, hsh]; done))) | (refine WK.condF ?_ ?_; (focus (simp only [go_sem, seval, reduceCtorEq, hin, hout, hw, hsh]; done))) | refine WK.seq ?_ | ((first | refine WK.reg ?_ | refine WK.skip ?_ | refine WK.ret ?_ | refine WK.exit ?_); simp only [go_sem, seval, reduceCtorEq, hin, hout, hw, hsh]) | ((with_reducible refine And.intro ?_ ?_); omega) | omega)
  refine Cut.by' (by first | exact Nat.le_refl _ | (simp only [Sto.get_add, Sto.get_set, Sto.get_del, Sto.get_none, Sto.next_add, Sto.next_set, Sto.next_del, Sto.next_none]; omega)) (by first | exact Nat.le_refl _ | (simp only [Sto.get_add, Sto.get_set, Sto.get_del, Sto.get_none, Sto.next_add, Sto.next_set, Sto.next_del, Sto.next_none]; omega)) (fun i hi => ?_) (fun i o hi ho => ?_)
  · (try simp only [Sto.get_add, Sto.get_set, Sto.get_del, Sto.get_none, Sto.next_add, Sto.next_set, Sto.next_del, Sto.next_none] at hi ⊢); ((repeat' split) <;> first | exact .inl rfl | exact .inr rfl | omega | (simp_all; done))
  · (try simp only [Sto.get_add, Sto.get_set, Sto.get_del, Sto.get_none, Sto.next_add, Sto.next_set, Sto.next_del, Sto.next_none] at hi ho ⊢); ((repeat' split at ho) <;> (repeat' split) <;> first | (exact ⟨ho, .inl ho⟩) | (cases ho; done) | omega | (cases ho; refine ⟨rfl, .inl rfl⟩) | (cases ho; refine ⟨rfl, .inr ?_⟩; simp only [go_sem, seval, reduceCtorEq, hin, hout, hw, hsh]; first | done | omega | (refine ⟨?_, ?_⟩ <;> omega)) | (simp_all; done))
end
end Go.Sx
