import Derived.Test.YtlhdjjnjhpfgoaaDoorQTkS
import Derived.Test.YtlhdjjnjhpfgoaaDoorLgAv
set_option maxRecDepth 100000
set_option maxHeartbeats 4000000
set_option linter.unusedSimpArgs false
set_option linter.unusedVariables false
set_option linter.unnecessarySimpa false
namespace Go.Sx
open Go Go.Lg Go.Proofs
theorem b28 {gl : GL} : Body (C gl).P 28 Tryd.f28 (codeOf Tryd.f28) := ⟨Tryd.func28, by kernel_rfl, by kernel_rfl⟩
section
variable {gl : GL}
instance nodes_i (f : Fm) (σ : Sto) : CtrX (C gl) 35 [encF f] [] σ True (.fn 47 [.ptr σ.next 0]) (σ.add (.box [.int .i64 f.op, .int .i64 f.var, .list false (encFs f.args)])) :=
  ⟨fun _ => ⟨⟨_, _, b35⟩, by rw [← cells_encF]; exact nodes_ok f σ⟩⟩
/-- The bytes of a key. -/
def keyB (l : List Fm) : List AV := l.flatMap fun x => [.int .u8 (IntKind.u8.wrap (IntKind.i64.wrap (97 + x.op))), .int .u8 (IntKind.u8.wrap (IntKind.i64.wrap (65 + x.var)))]
theorem keyB_snoc (l : List Fm) (x : Fm) : keyB (l ++ [x]) = keyB l ++ [.int .u8 (IntKind.u8.wrap (IntKind.i64.wrap (97 + x.op))), .int .u8 (IntKind.u8.wrap (IntKind.i64.wrap (65 + x.var)))] := by simp [keyB]
theorem keyB_len (l : List Fm) : (keyB l).length = 2 * l.length := by
  induction l with
  | nil => rfl
  | cons x l ih => simp only [keyB, List.flatMap_cons, List.length_append, List.length_cons, List.length_nil] at ih ⊢; omega
theorem keyB_u8 (l : List Fm) : (keyB l).all AV.isU8 = true := by
  induction l with
  | nil => rfl
  | cons x l ih => simp only [keyB, List.flatMap_cons, List.all_append, Bool.and_eq_true] at ih ⊢; exact ⟨rfl, ih⟩
theorem keyB_oke (l : List Fm) : OKEs 1 (keyB l) = True := by
  induction l with
  | nil => exact okes_nil
  | cons x l ih => simp only [keyB, List.flatMap_cons] at ih ⊢; rw [okes_append, ih, okes_cons, okes_cons, okes_nil, oke_int, oke_int]; simp
theorem keyB_bel (m : Nat) (l : List Fm) : BelE m (keyB l) = True := by
  induction l with
  | nil => exact belE_nil
  | cons x l ih =>
    simp only [keyB, List.flatMap_cons] at ih ⊢
    rw [belE_append, ih]
    simp only [belE_cons, belE_nil, AV.cells, belL_cons, belL_nil, bel_int, and_self]
def keyS (f : Fm) : ByteArray := byA (keyB (nodesF f))
theorem hand_all {T : Type} (step : T → Fm → T) : ∀ (l : List Fm) (t : T), handT step (fun _ => true) t l = l.foldl step t
  | [], t => rfl
  | x :: l, t => by rw [handT, if_pos rfl, hand_all step l]; rfl
theorem foldl_snoc : ∀ (l a : List Fm), l.foldl (fun t x => t ++ [x]) a = a ++ l
  | [], a => by simp
  | x :: l, a => by rw [List.foldl_cons, foldl_snoc l]; simp
theorem key_ok (f : Fm) (hs : Shrt f) (hn : (nodesF f).length < 1000000) : PCall (C gl) 28 [encF f] (.str (keyS f)) := by
  refine pcallX (callX_of b28 (by simp [Tryd.ntmps28]) ?_) (by simp only [AllCl, cl_encF, and_true]) (.str _)
  refine W.of ?_
  rw [Tryd.ntmps28]
  simp only [toK, codeOf, Tryd.f28, go_sem, seval, reduceCtorEq]
  have H := trivial
  refine autoA ?_
  try exact trivial
  refine WK.ownBox0 1 0 1 (by simp only [go_sem, seval, reduceCtorEq]; rfl) (by rfl) ?_
  simp only [go_sem, seval, reduceCtorEq]
  have H := @keyB_bel
  refine WK.forNodesW 4 [1, 2, 3] f hs 2 (fun t : List Fm => (((Sto.none.add (.box [.int .i64 f.op, .int .i64 f.var, .list false (encFs f.args)])).add (.box [.own 3 (keyB t)])).add (.box [.int .i64 f.op, .int .i64 f.var, .list false (encFs f.args)])).add (.tok 1 (2 * t.length))) (fun t x => t ++ [x]) (fun _ => true) [] ?_ ?_ (fun t σ1 _ h => by cases h)
  · rintro L t x σ' ⟨p, q, hx, ht⟩ _ hn' hag hl
    have hlt : t.length < 1000000 := by
      rw [hand_all, foldl_snoc, List.nil_append] at ht
      have := congrArg List.length hx
      rw [List.length_append, List.length_cons] at this
      rw [ht]; omega
    have nz_0 : (0 = σ'.next) = False := by simp; omega
    have nx_0 : ∀ j, (0 = σ'.next + j) = False := fun j => by simp; omega
    have nz_1 : (1 = σ'.next) = False := by simp; omega
    have nx_1 : ∀ j, (1 = σ'.next + j) = False := fun j => by simp; omega
    have nz_2 : (2 = σ'.next) = False := by simp; omega
    have nx_2 : ∀ j, (2 = σ'.next + j) = False := fun j => by simp; omega
    have nz_3 : (3 = σ'.next) = False := by simp; omega
    have nx_3 : ∀ j, (3 = σ'.next + j) = False := fun j => by simp; omega
    have nz_4 : (4 = σ'.next) = False := by simp; omega
    have nx_4 : ∀ j, (4 = σ'.next + j) = False := fun j => by simp; omega
    simp only [toK, bindP, go_sem, seval, reduceCtorEq]
    have H := And.intro @nz_0 (And.intro @nx_0 (And.intro @nz_1 (And.intro @nx_1 (And.intro @nz_2 (And.intro @nx_2 (And.intro @nz_3 (And.intro @nx_3 (And.intro @nz_4 (And.intro @nx_4 (And.intro @hag (And.intro @hl (And.intro @keyB_len (And.intro @keyB_oke @keyB_bel)))))))))))))
    refine autoA ?_
    try exact trivial
    rw [keyB_snoc, List.length_append]
    exact bodyA
  · rintro t rfl _
    rw [hand_all, foldl_snoc, List.nil_append]
    simp only [go_sem, seval, reduceCtorEq]
    have H := @keyB_u8
    refine autoA ?_
    try exact trivial
    exact ⟨.refl _, cut_none _⟩
instance key_i (f : Fm) : Ctr (C gl) 28 [encF f] (Shrt f ∧ (nodesF f).length < 1000000) (.str (keyS f)) := ⟨fun h => key_ok f h.1 h.2⟩
end
end Go.Sx
