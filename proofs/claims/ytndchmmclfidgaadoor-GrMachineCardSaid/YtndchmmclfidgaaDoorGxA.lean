import Derived.Test.YtndchmmclfidgaaDoorLgAw
import Derived.Test.YtndchmmclfidgaaDoorGrC
import Derived.Test.YtndchmmclfidgaaDoorLgX
set_option maxRecDepth 100000
set_option linter.unusedSimpArgs false
set_option linter.unusedVariables false
set_option linter.unnecessarySimpa false
namespace Go.Sx
open Go Go.Lg Go.Proofs
theorem b131 {gl : GL} : Body (C gl).P 131 Tryd.f131 (codeOf Tryd.f131) := ⟨Tryd.func131, by kernel_rfl, by kernel_rfl⟩
theorem b209 {gl : GL} : Body (C gl).P 209 Tryd.f209 (codeOf Tryd.f209) := ⟨Tryd.func209, by kernel_rfl, by kernel_rfl⟩
theorem b190 {gl : GL} : Body (C gl).P 190 Tryd.f190 (codeOf Tryd.f190) := ⟨Tryd.func190, by kernel_rfl, by kernel_rfl⟩
theorem b133 {gl : GL} : Body (C gl).P 133 Tryd.f133 (codeOf Tryd.f133) := ⟨Tryd.func133, by kernel_rfl, by kernel_rfl⟩
theorem b147 {gl : GL} : Body (C gl).P 147 Tryd.f147 (codeOf Tryd.f147) := ⟨Tryd.func147, by kernel_rfl, by kernel_rfl⟩
theorem b191 {gl : GL} : Body (C gl).P 191 Tryd.f191 (codeOf Tryd.f191) := ⟨Tryd.func191, by kernel_rfl, by kernel_rfl⟩
def orTrue (l : List Fm) : List Fm := if l.length = 0 then [.mk 0 0 []] else l
def setsL (l : List Fm) (n : Nat) : List (BitVec 64) := (orTrue l).map fun f => setB (fun k => holdsF k 0 f) n
def encW (b : BitVec 64) : AV := .int .u64 (uB b)
theorem encW_eq (b : BitVec 64) : encW b = .int .u64 (uB b) := rfl
theorem belE_encW {m : Nat} (l : List (BitVec 64)) : BelE m (l.map encW) = True := eq_true (belE_map (fun _ => .int _ _) l)
theorem okes_encW (l : List (BitVec 64)) : OKEs 1 (l.map encW) = True := eq_true (okes_map fun _ => ⟨rfl, rfl⟩)
attribute [go_sem] belE_encW okes_encW
structure Tb where
  c : Ct
  n : Nat
  je : List (BitVec 64)
  js : List (BitVec 64)
  good : List (List (Bool × BitVec 64))
def encStep (s : Bool × BitVec 64) : AV := .agg [.bool s.1, .int .u64 (uB s.2)]
theorem encStep_eq (s : Bool × BitVec 64) : encStep s = .agg [.bool s.1, .int .u64 (uB s.2)] := rfl
def encRow (row : List (Bool × BitVec 64)) : AV := .list false (row.map encStep)
def tbCells (t : Tb) : List AV := [.int .i64 t.c.inn, .int .i64 t.c.out, .int .i64 t.c.ie.op, .int .i64 t.c.ie.var, .list false (encFs t.c.ie.args), .int .i64 t.c.is.op, .int .i64 t.c.is.var, .list false (encFs t.c.is.args),
  .int .i64 t.c.se.op, .int .i64 t.c.se.var, .list false (encFs t.c.se.args), .int .i64 t.c.ss.op, .int .i64 t.c.ss.var, .list false (encFs t.c.ss.args), .list false (encFs t.c.je), .list false (encFs t.c.js),
  .int .i64 t.n, .list false (t.je.map encW), .list false (t.js.map encW), .list false (t.good.map encRow)]
def ctCells (c : Ct) : List AV := [.int .i64 c.inn, .int .i64 c.out, .int .i64 c.ie.op, .int .i64 c.ie.var, .list false (encFs c.ie.args), .int .i64 c.is.op, .int .i64 c.is.var, .list false (encFs c.is.args),
  .int .i64 c.se.op, .int .i64 c.se.var, .list false (encFs c.se.args), .int .i64 c.ss.op, .int .i64 c.ss.var, .list false (encFs c.ss.args), .list false (encFs c.je), .list false (encFs c.js)]
theorem encC_eq (c : Ct) : encC c = .agg (ctCells c) := rfl
theorem tb_len (t : Tb) : (tbCells t).length = 20 := rfl
theorem tb_0 (t : Tb) : (tbCells t).getD 0 .undef = .int .i64 t.c.inn := rfl
theorem tb_1 (t : Tb) : (tbCells t).getD 1 .undef = .int .i64 t.c.out := rfl
theorem tb_16 (t : Tb) : (tbCells t).getD 16 .undef = .int .i64 t.n := rfl
theorem tb_17 (t : Tb) : (tbCells t).getD 17 .undef = .list false (t.je.map encW) := rfl
theorem tb_18 (t : Tb) : (tbCells t).getD 18 .undef = .list false (t.js.map encW) := rfl
theorem tb_19 (t : Tb) : (tbCells t).getD 19 .undef = .list false (t.good.map encRow) := rfl
theorem ct_len (c : Ct) : (ctCells c).length = 16 := rfl
theorem ct_0 (c : Ct) : (ctCells c).getD 0 .undef = .int .i64 c.inn := rfl
theorem ct_1 (c : Ct) : (ctCells c).getD 1 .undef = .int .i64 c.out := rfl
theorem ct_14 (c : Ct) : (ctCells c).getD 14 .undef = .list false (encFs c.je) := rfl
theorem ct_15 (c : Ct) : (ctCells c).getD 15 .undef = .list false (encFs c.js) := rfl
theorem ct_ie (c : Ct) : AV.agg (((ctCells c).drop 2).take 3) = encF c.ie := (encF_eq c.ie).symm
theorem ct_is (c : Ct) : AV.agg (((ctCells c).drop 5).take 3) = encF c.is := (encF_eq c.is).symm
theorem ct_se (c : Ct) : AV.agg (((ctCells c).drop 8).take 3) = encF c.se := (encF_eq c.se).symm
theorem ct_ss (c : Ct) : AV.agg (((ctCells c).drop 11).take 3) = encF c.ss := (encF_eq c.ss).symm
theorem ct_take (c : Ct) : (ctCells c).take 16 = ctCells c := rfl
attribute [go_sem] encC_eq ct_take tb_len tb_0 tb_1 tb_16 tb_17 tb_18 tb_19 ct_len ct_0 ct_1 ct_14 ct_15 ct_ie ct_is ct_se ct_ss
theorem map_getD {A : Type} (f : A → AV) : ∀ (l : List A) (i : Nat) (h : i < l.length), (l.map f).getD i .undef = f l[i]
  | x :: l, 0, h => rfl
  | x :: l, i + 1, h => by simpa using map_getD f l i (by simpa using h)
def aheadB (t : Tb) (s : BitVec 64) : BitVec 64 := setB (fun l => !(t.good.getD l []).any fun x => x.1 && (x.2 &&& s == 0#64)) t.good.length
section
variable {gl : GL}
theorem sets_ok (l : List Fm) (n : Nat) (hw : ∀ f ∈ l, WfH f) (hl : l.length < 1000000) (hn : n < 1000000) : PCall (C gl) 131 [.list false (encFs l), .int .i64 n] (.list false ((setsL l n).map encW)) := by
  refine pcallX (callX_of b131 (by simp [Tryd.ntmps131]) ?_) (by simp only [AllCl, cl_list, clE_encFs, cl_int, and_true]) (by rw [cl_list]; exact clE_map (fun _ => .int _ _) _)
  refine W.of ?_
  rw [Tryd.ntmps131]
  simp only [toK, codeOf, Tryd.f131, go_sem, seval, reduceCtorEq]
  have H := @encFs_len
  refine goB ?_
  first | exact trivial | clear H | skip
  refine WK.joinB [1, 4] [0] [.list false (encFs (orTrue l))] Sto.none ?_ ?_
  · refine WK.cond _ (by simp only [go_sem, seval, reduceCtorEq]; rfl) (fun h => ?_) (fun h => ?_)
    · have H := trivial
      refine goB ?_
      first | exact trivial | clear H | skip
      have h1 : orTrue l = [.mk 0 0 []] := by simp [orTrue]; intro h'; exact absurd h (by simp [h'])
      rw [h1]
      refine AV.le_list (fun e => by cases e) ⟨⟨.refl _, .refl _, AV.le_list' _, trivial⟩, trivial⟩
    · have H := trivial
      refine goB ?_
      first | exact trivial | clear H | skip
      have h1 : orTrue l = l := by simp [orTrue]; intro h'; exact absurd h (by simp [h'])
      rw [h1]; exact .refl _
  simp only [go_sem, seval, reduceCtorEq]
  have H := @encFs_len
  refine goB ?_
  first | exact trivial | clear H | skip
  refine WK.own0 5 1 (by decide) (by simp only [go_sem, seval, reduceCtorEq]) ?_
  have hl' : (orTrue l).length < 1000001 := by
    unfold orTrue
    split
    · simp
    · omega
  have hw' : ∀ f ∈ orTrue l, WfH f := by
    intro f hf
    unfold orTrue at hf
    split at hf
    · simp only [List.mem_singleton] at hf; subst hf; simp [WfH, WfHL]
    · exact hw f hf
  refine WK.rangeX ((orTrue l).length) [1, 15] [5] (fun i => [.own 0 (((orTrue l).take i).map fun f => encW (setB (fun k => holdsF k 0 f) n))]) (fun i => Sto.none.add (.tok 1 i)) (by omega) (by decide) (by simp only [go_sem, seval, reduceCtorEq]) (by simp only [go_sem, seval, reduceCtorEq]) (by simp only [go_sem, seval, reduceCtorEq, List.take_zero]) (by first | rfl | (simp only [go_sem, seval, reduceCtorEq]; done) | (refine Sto.ext' (by simp only [go_sem, seval, reduceCtorEq]) (fun i => ?_); simp only [go_sem, seval, reduceCtorEq]; repeat' split; all_goals (first | rfl | omega | simp_all))) ?_ ?_
  · intro k hk
    simp only [go_sem, seval, reduceCtorEq]
    have H := And.intro @encFs_len (And.intro @encFs_get (And.intro @hk @encF_eq))
    refine goB ?_
    first | exact trivial | clear H | skip
    refine WK.rangeX (n) [1, 15, 5, 16, 17, 7] [8] (fun i => [.int .u64 (uB (setB (fun k' => holdsF k' 0 (orTrue l)[k]) i))]) (fun i => (Sto.none.add (.tok 1 k)).add (.box [.int .i64 (orTrue l)[k].op, .int .i64 (orTrue l)[k].var, .list false (encFs (orTrue l)[k].args)])) (by omega) (by decide) (by simp only [go_sem, seval, reduceCtorEq, setB, ← uB_zero]) (by simp only [go_sem, seval, reduceCtorEq, setB, ← uB_zero]) (by simp only [go_sem, seval, reduceCtorEq, setB, ← uB_zero, List.take_zero]) (by first | rfl | (simp only [go_sem, seval, reduceCtorEq, setB, ← uB_zero]; done) | (refine Sto.ext' (by simp only [go_sem, seval, reduceCtorEq, setB, ← uB_zero]) (fun i => ?_); simp only [go_sem, seval, reduceCtorEq, setB, ← uB_zero]; repeat' split; all_goals (first | rfl | omega | simp_all))) ?_ ?_
    · intro j hj
      simp only [go_sem, seval, reduceCtorEq]
      have H := trivial
      refine goB ?_
      first | exact trivial | clear H | skip
      refine callK_pureL (holds_ok (gl := gl) j 0 (orTrue l)[k] (hw' _ (List.getElem_mem hk))) rfl ?_ ?_ ?_ <;> simp only [go_sem, seval, reduceCtorEq, encF_eq]
      refine WK.cond _ (by simp only [go_sem, seval, reduceCtorEq]; rfl) (fun h => ?_) (fun h => ?_)
      · have H := And.intro @setB.eq_1 (And.intro @setB.eq_2 @h)
        refine goB ?_
        first | exact trivial | clear H | skip
      · have H := And.intro @setB.eq_1 (And.intro @setB.eq_2 @h)
        refine goB ?_
        first | exact trivial | clear H | skip
    · simp only [go_sem, seval, reduceCtorEq]
      have H := @encFs_len
      refine goB ?_
      first | exact trivial | clear H | skip
      have H := @encW_eq
      refine appB ?_
      first | exact trivial | clear H | skip
      refine ⟨?_, ?_⟩
      · rw [takeM hk]; exact .refl _
      have H := trivial
      exact cutA
  · simp only [go_sem, seval, reduceCtorEq]
    have H := trivial
    refine goB ?_
    first | exact trivial | clear H | skip
    rw [List.take_length]
    refine ⟨?_, ?_⟩
    · unfold setsL; rw [List.map_map]; exact le_own _ _
    have H := trivial
    exact cutA
theorem tall_ok (tid : Nat) (t : Tb) (σ : Sto) (hn : t.n ≤ 64) (ht : σ.get tid = some (.box (tbCells t))) : CallX (C gl) 133 [.ptr tid 0] σ (.int .u64 (uB (allB t.n))) σ := by
  refine callX_of b133 (by simp [Tryd.ntmps133]) ?_
  refine W.of ?_
  rw [Tryd.ntmps133]
  simp only [toK, codeOf, Tryd.f133, go_sem, seval, reduceCtorEq]
  have H := And.intro @ht @tbCells.eq_1
  refine goB ?_
  first | exact trivial | clear H | skip
  refine WK.cond _ (by simp only [go_sem, seval, reduceCtorEq]; rfl) (fun h => ?_) (fun h => ?_)
  · have hn : t.n = 64 := by simp at h; omega
    have H := And.intro @allB.eq_1 @hn
    refine goB ?_
    first | exact trivial | clear H | skip
    exact ones_uB.symm
  · have hn2 : ¬ t.n = 64 := by simp at h; omega
    have hs := sub1_uB t.n (by omega)
    have H := And.intro @ht (And.intro @tbCells.eq_1 (And.intro @allB.eq_1 (And.intro @hn2 @hs)))
    refine goB ?_
    first | exact trivial | clear H | skip
theorem indexS_ok {p : Bool × BitVec 64 → Bool} {g : FuncId} {caps : List AV} {σ : Sto} (xs : List (Bool × BitVec 64)) (hlen : xs.length < 9223372036854775807) (hx : ∀ x ∈ xs, FnX (C gl) g caps σ [encStep x] (.bool (p x))) :
    CallX (C gl) 209 [.list false (xs.map encStep), .fn g caps] σ (.int .i64 (idxF p xs 0)) σ := by
  refine callX_of b209 (by simp [Tryd.ntmps209]) ?_
  refine W.of ?_
  rw [Tryd.ntmps209]
  simp only [toK, codeOf, Tryd.f209, go_sem, seval, reduceCtorEq]
  have H := trivial
  refine goB ?_
  first | exact trivial | clear H | skip
  refine WK.rangeI (xs.length) [0, 1] [] (fun i => []) (fun i => σ) (fun i => ∀ x ∈ xs.take i, p x = false) (by simp) (by omega) (by decide) (by simp only [go_sem, seval, reduceCtorEq]) (by simp only [go_sem, seval, reduceCtorEq]) (by simp only [go_sem, seval, reduceCtorEq, List.take_zero]) (by first | rfl | (simp only [go_sem, seval, reduceCtorEq]; done) | (refine Sto.ext' (by simp only [go_sem, seval, reduceCtorEq]) (fun i => ?_); simp only [go_sem, seval, reduceCtorEq]; repeat' split; all_goals (first | rfl | omega | simp_all))) ?_ ?_
  · intro i hi hp
    simp only [go_sem, seval, reduceCtorEq]
    have H := And.intro (map_getD encStep xs i hi) @encStep_eq
    refine goB ?_
    first | exact trivial | clear H | skip
    refine callK_f (hx xs[i] (List.getElem_mem hi)) (.refl _) rfl ?_ ?_ ?_ <;> simp only [go_sem, seval, reduceCtorEq, encStep_eq]
    refine WK.cond _ (by simp only [go_sem, seval, reduceCtorEq]; rfl) (fun h => ?_) (fun h => ?_)
    · have H := trivial
      refine goB ?_
      first | exact trivial | clear H | skip
      rw [idxF_drop p xs 0 i hp, List.drop_eq_getElem_cons hi]
      simp [idxF, h]
    · have H := trivial
      refine goB ?_
      first | exact trivial | clear H | skip
      intro x hx
      rw [← List.take_append_getElem hi, List.mem_append, List.mem_singleton] at hx
      rcases hx with hx | rfl
      · exact hp x hx
      · exact h
  · intro hp
    simp only [go_sem, seval, reduceCtorEq]
    have H := trivial
    refine goB ?_
    first | exact trivial | clear H | skip
    rw [idxF_drop p xs 0 xs.length hp]
    simp [idxF]
theorem containsS_ok {p : Bool × BitVec 64 → Bool} {g : FuncId} {caps : List AV} {σ : Sto} (xs : List (Bool × BitVec 64)) (hlen : xs.length < 9223372036854775807) (hx : ∀ x ∈ xs, FnX (C gl) g caps σ [encStep x] (.bool (p x))) :
    CallX (C gl) 190 [.list false (xs.map encStep), .fn g caps] σ (.bool (xs.any p)) σ := by
  refine callX_of b190 (by simp [Tryd.ntmps190]) ?_
  refine W.of ?_
  rw [Tryd.ntmps190]
  simp only [toK, codeOf, Tryd.f190, go_sem, seval, reduceCtorEq]
  have H := trivial
  refine goB ?_
  first | exact trivial | clear H | skip
  refine callK_x0 (indexS_ok xs hlen hx) rfl ?_ ?_ ?_ <;> simp only [go_sem, seval, reduceCtorEq]
  have H := @idxF_any
  refine goB ?_
  first | exact trivial | clear H | skip
theorem ahead1_ok (sb : Nat) (s : BitVec 64) (x : Bool × BitVec 64) (σ : Sto) (hs : σ.get sb = some (.box [.int .u64 (uB s)])) (hl : sb < σ.next) :
    CallX (C gl) 191 [encStep x, .ptr sb 0] σ (.bool (x.1 && (x.2 &&& s == 0#64))) σ := by
  refine callX_of b191 (by simp [Tryd.ntmps191]) ?_
  have hne : (sb = σ.next) = False := by simp; omega
  obtain ⟨b, y⟩ := x
  refine W.of ?_
  rw [Tryd.ntmps191]
  simp only [toK, codeOf, Tryd.f191, go_sem, seval, reduceCtorEq]
  cases b with
  | true =>
    have H := And.intro @encStep.eq_1 (And.intro @hne @hs)
    refine goB ?_
    first | exact trivial | clear H | skip
    have H := trivial
    exact cutA
  | false =>
    have H := And.intro @encStep.eq_1 (And.intro @hne @hs)
    refine goB ?_
    first | exact trivial | clear H | skip
    have H := trivial
    exact cutA
theorem ahead_ok (tid : Nat) (t : Tb) (s : BitVec 64) (σ : Sto) (hl : t.good.length < 1000000) (hr : ∀ row ∈ t.good, row.length < 1000000) (ht : σ.get tid = some (.box (tbCells t))) (htl : tid < σ.next) :
    CallX (C gl) 147 [.ptr tid 0, .int .u64 (uB s)] σ (.int .u64 (uB (aheadB t s))) σ := by
  refine callX_of b147 (by simp [Tryd.ntmps147]) ?_
  have hne : (tid = σ.next) = False := by simp; omega
  refine W.of ?_
  rw [Tryd.ntmps147]
  simp only [toK, codeOf, Tryd.f147, go_sem, seval, reduceCtorEq]
  have H := And.intro @hne (And.intro @ht @tbCells.eq_1)
  refine goB ?_
  first | exact trivial | clear H | skip
  refine WK.rangeX (t.good.length) [3, 11] [5] (fun i => [.int .u64 (uB (setB (fun l => !(t.good.getD l []).any fun x => x.1 && (x.2 &&& s == 0#64)) i))]) (fun i => σ.add (.box [.int .u64 (uB s)])) (by omega) (by decide) (by simp only [go_sem, seval, reduceCtorEq, setB, uB_zero]) (by simp only [go_sem, seval, reduceCtorEq, setB, uB_zero]) (by simp only [go_sem, seval, reduceCtorEq, setB, uB_zero, List.take_zero]) (by first | rfl | (simp only [go_sem, seval, reduceCtorEq, setB, uB_zero]; done) | (refine Sto.ext' (by simp only [go_sem, seval, reduceCtorEq, setB, uB_zero]) (fun i => ?_); simp only [go_sem, seval, reduceCtorEq, setB, uB_zero]; repeat' split; all_goals (first | rfl | omega | simp_all))) ?_ ?_
  · intro i hi
    simp only [go_sem, seval, reduceCtorEq]
    have H := And.intro (map_getD encRow t.good i hi) @encRow.eq_1
    refine goB ?_
    first | exact trivial | clear H | skip
    have hgd : t.good.getD i [] = t.good[i] := by rw [List.getD_eq_getElem?_getD, List.getElem?_eq_getElem hi]; rfl
    have hrow := hr t.good[i] (List.getElem_mem hi)
    refine callK_x0 (containsS_ok (p := fun x => x.1 && (x.2 &&& s == 0#64)) t.good[i] (by omega) fun x _ σ' hs' => ahead1_ok σ.next s x σ' (by rw [hs'.get _ (by simp [Sto.next_add])]; simp [Sto.get_add]) (Nat.lt_of_lt_of_le (by simp [Sto.next_add]) hs'.next)) rfl ?_ ?_ ?_ <;> simp only [go_sem, seval, reduceCtorEq]
    refine WK.cond _ (by simp only [go_sem, seval, reduceCtorEq]; rfl) (fun h => ?_) (fun h => ?_)
    · have h' : (t.good[i].any fun x => x.1 && (x.2 &&& s == 0#64)) = false := by simpa using h
      have H := And.intro @setB.eq_1 (And.intro @setB.eq_2 (And.intro @hgd @h'))
      refine goB ?_
      first | exact trivial | clear H | skip
    · have h' : (t.good[i].any fun x => x.1 && (x.2 &&& s == 0#64)) = true := by simpa using h
      have H := And.intro @setB.eq_1 (And.intro @setB.eq_2 (And.intro @hgd @h'))
      refine goB ?_
      first | exact trivial | clear H | skip
  · simp only [go_sem, seval, reduceCtorEq]
    have H := @aheadB.eq_1
    refine goB ?_
    first | exact trivial | clear H | skip
    have H := trivial
    exact cutA
end
end Go.Sx
