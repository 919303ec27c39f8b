import Derived.Test.YtlhdjjnjhpfgoaaDoorQLtlB
import Derived.Test.YtlhdjjnjhpfgoaaDoorLgW
import Derived.Test.YtlhdjjnjhpfgoaaDoorQSxH
set_option maxRecDepth 100000
set_option linter.unusedSimpArgs false
set_option linter.unusedVariables false
set_option linter.unnecessarySimpa false
namespace Go.Sx
open Go Go.Lg Go.Proofs

theorem b76 {gl : GL} : Body (C gl).P 76 Tryd.f76 (codeOf Tryd.f76) := ⟨Tryd.func76, by kernel_rfl, by kernel_rfl⟩
theorem b63 {gl : GL} : Body (C gl).P 63 Tryd.f63 (codeOf Tryd.f63) := ⟨Tryd.func63, by kernel_rfl, by kernel_rfl⟩
theorem b75 {gl : GL} : Body (C gl).P 75 Tryd.f75 (codeOf Tryd.f75) := ⟨Tryd.func75, by kernel_rfl, by kernel_rfl⟩
theorem b62 {gl : GL} : Body (C gl).P 62 Tryd.f62 (codeOf Tryd.f62) := ⟨Tryd.func62, by kernel_rfl, by kernel_rfl⟩
theorem b85 {gl : GL} : Body (C gl).P 85 Tryd.f85 (codeOf Tryd.f85) := ⟨Tryd.func85, by kernel_rfl, by kernel_rfl⟩
theorem b80 {gl : GL} : Body (C gl).P 80 Tryd.f80 (codeOf Tryd.f80) := ⟨Tryd.func80, by kernel_rfl, by kernel_rfl⟩
theorem b81 {gl : GL} : Body (C gl).P 81 Tryd.f81 (codeOf Tryd.f81) := ⟨Tryd.func81, by kernel_rfl, by kernel_rfl⟩
theorem b82 {gl : GL} : Body (C gl).P 82 Tryd.f82 (codeOf Tryd.f82) := ⟨Tryd.func82, by kernel_rfl, by kernel_rfl⟩
theorem b74 {gl : GL} : Body (C gl).P 74 Tryd.f74 (codeOf Tryd.f74) := ⟨Tryd.func74, by kernel_rfl, by kernel_rfl⟩
theorem b61 {gl : GL} : Body (C gl).P 61 Tryd.f61 (codeOf Tryd.f61) := ⟨Tryd.func61, by kernel_rfl, by kernel_rfl⟩
theorem b49 {gl : GL} : Body (C gl).P 49 Tryd.f49 (codeOf Tryd.f49) := ⟨Tryd.func49, by kernel_rfl, by kernel_rfl⟩
/-! ## Texts and names -/
def encT (l : Bs) : AV := .str (tx l)
theorem encT_eq (l : Bs) : encT l = .str (tx l) := rfl
theorem map_getT {A : Type} (f : A → AV) : ∀ (l : List A) (i : Nat) (h : i < l.length), (l.map f).getD i .undef = f l[i]
  | x :: l, 0, h => rfl
  | x :: l, i + 1, h => by simpa using map_getT f l i (by simpa using h)
theorem belE_T {m : Nat} (l : List Bs) : BelE m (l.map encT) = True := eq_true (belE_map (fun _ => .str _) l)
theorem okes_T (l : List Bs) : OKEs 1 (l.map encT) = True := eq_true (okes_map fun _ => ⟨rfl, rfl⟩)
theorem clE_T (l : List Bs) : ClE (l.map encT) = True := eq_true (clE_map (fun _ => .str _) l)
attribute [go_sem] belE_T okes_T clE_T
def pre (s p : Bs) : Bool := s.take p.length == p
section
variable {gl : GL}
theorem slPre_ok (s p : Bs) : PCall (C gl) 76 [.str (tx s), .str (tx p)] (.bool (pre s p)) := by
  refine pcallX (callX_of b76 (by simp [Tryd.ntmps76]) ?_) (by simp only [AllCl, cl_str, and_true]) (.bool _)
  refine W.of ?_
  rw [Tryd.ntmps76]
  simp only [toK, codeOf, Tryd.f76, go_sem, seval, reduceCtorEq]
  by_cases h : (s.length : Int) ≥ (p.length : Int)
  · try simp only [go_sem, seval, reduceCtorEq, h, decide_true]
    repeat (first | refine WK.blockSeq ?_ | refine WK.blockCond ?_ | refine WK.blockReg ?_ | (refine WK.condT ?_ ?_; (focus (simp only [go_sem, seval, reduceCtorEq, h, decide_true]; done))) | (refine WK.condF ?_ ?_; (focus (simp only [go_sem, seval, reduceCtorEq, h, decide_true]; done))) | refine WK.seq ?_ | ((first | refine WK.reg ?_ | refine WK.skip ?_ | refine WK.ret ?_ | refine WK.exit ?_); simp only [go_sem, seval, reduceCtorEq, h, decide_true]) | ((with_reducible refine And.intro ?_ ?_); omega) | omega)
    rfl
  · have e : pre s p = false := by
      unfold pre
      refine Bool.eq_false_iff.2 fun e => h ?_
      have := congrArg List.length (eq_of_beq e)
      rw [List.length_take] at this; omega
    try simp only [go_sem, seval, reduceCtorEq, h, decide_false, e]
    repeat (first | refine WK.blockSeq ?_ | refine WK.blockCond ?_ | refine WK.blockReg ?_ | (refine WK.condT ?_ ?_; (focus (simp only [go_sem, seval, reduceCtorEq, h, decide_false, e]; done))) | (refine WK.condF ?_ ?_; (focus (simp only [go_sem, seval, reduceCtorEq, h, decide_false, e]; done))) | refine WK.seq ?_ | ((first | refine WK.reg ?_ | refine WK.skip ?_ | refine WK.ret ?_ | refine WK.exit ?_); simp only [go_sem, seval, reduceCtorEq, h, decide_false, e]) | ((with_reducible refine And.intro ?_ ?_); omega) | omega)
theorem pre_ok (s p : Bs) : PCall (C gl) 63 [.str (tx s), .str (tx p)] (.bool (pre s p)) := by
  refine pcallX (callX_of b63 (by simp [Tryd.ntmps63]) ?_) (by simp only [AllCl, cl_str, and_true]) (.bool _)
  refine W.of ?_
  rw [Tryd.ntmps63]
  simp only [toK, codeOf, Tryd.f63, go_sem, seval, reduceCtorEq]
  try simp only [go_sem, seval, reduceCtorEq]
  repeat (first | refine WK.blockSeq ?_ | refine WK.blockCond ?_ | refine WK.blockReg ?_ | (refine WK.condT ?_ ?_; (focus (simp only [go_sem, seval, reduceCtorEq]; done))) | (refine WK.condF ?_ ?_; (focus (simp only [go_sem, seval, reduceCtorEq]; done))) | refine WK.seq ?_ | ((first | refine WK.reg ?_ | refine WK.skip ?_ | refine WK.ret ?_ | refine WK.exit ?_); simp only [go_sem, seval, reduceCtorEq]) | ((with_reducible refine And.intro ?_ ?_); omega) | omega)
  refine callK_pureL (slPre_ok (gl := gl) s p) rfl ?_ ?_ ?_ <;> simp only [go_sem, seval, reduceCtorEq]
  try simp only [go_sem, seval, reduceCtorEq]
  repeat (first | refine WK.blockSeq ?_ | refine WK.blockCond ?_ | refine WK.blockReg ?_ | (refine WK.condT ?_ ?_; (focus (simp only [go_sem, seval, reduceCtorEq]; done))) | (refine WK.condF ?_ ?_; (focus (simp only [go_sem, seval, reduceCtorEq]; done))) | refine WK.seq ?_ | ((first | refine WK.reg ?_ | refine WK.skip ?_ | refine WK.ret ?_ | refine WK.exit ?_); simp only [go_sem, seval, reduceCtorEq]) | ((with_reducible refine And.intro ?_ ?_); omega) | omega)
/-- Where a text is, -1: nowhere. -/
def idxT (s : Bs) (l : List Bs) : Int := idxF (fun t => s == t) l 0
theorem take_stepT {s : Bs} {l : List Bs} {i : Nat} (h : i < l.length) (hI : ∀ x ∈ l.take i, (s == x) = false) (hp : (s == l[i]) = false) : ∀ x ∈ l.take (i + 1), (s == x) = false := by
  intro g hg
  rw [← List.take_append_getElem h, List.mem_append, List.mem_singleton] at hg
  rcases hg with hg | rfl
  · exact hI g hg
  · exact hp
theorem indexT_ok (l : List Bs) (s : Bs) (hl : l.length < 9223372036854775807) : PCall (C gl) 75 [.list false (l.map encT), .str (tx s)] (.int .i64 (idxT s l)) := by
  refine pcallX (callX_of b75 (by simp [Tryd.ntmps75]) ?_) (by simp only [AllCl, cl_str, cl_list, and_true]; exact of_eq_true (clE_T _)) (.int _ _)
  refine W.of ?_
  rw [Tryd.ntmps75]
  simp only [toK, codeOf, Tryd.f75, go_sem, seval, reduceCtorEq]
  try simp only [go_sem, seval, reduceCtorEq, List.length_map]
  repeat (first | refine WK.blockSeq ?_ | refine WK.blockCond ?_ | refine WK.blockReg ?_ | (refine WK.condT ?_ ?_; (focus (simp only [go_sem, seval, reduceCtorEq, List.length_map]; done))) | (refine WK.condF ?_ ?_; (focus (simp only [go_sem, seval, reduceCtorEq, List.length_map]; done))) | refine WK.seq ?_ | ((first | refine WK.reg ?_ | refine WK.skip ?_ | refine WK.ret ?_ | refine WK.exit ?_); simp only [go_sem, seval, reduceCtorEq, List.length_map]) | ((with_reducible refine And.intro ?_ ?_); omega) | omega)
  refine WK.rangeI (l.length) [0, 1] [] (fun i => []) (fun i => Sto.none) (fun i => ∀ x ∈ l.take i, (s == x) = false) (by simp) (by omega) (by decide) (by simp only [go_sem, seval, reduceCtorEq, List.length_map]) (by simp only [go_sem, seval, reduceCtorEq, List.length_map]) (by simp only [go_sem, seval, reduceCtorEq, List.length_map, List.take_zero]) (by first | rfl | (simp only [go_sem, seval, reduceCtorEq, List.length_map]; done) | (refine Sto.ext' (by simp only [go_sem, seval, reduceCtorEq, List.length_map]) (fun i => ?_); simp only [go_sem, seval, reduceCtorEq, List.length_map]; repeat' split; all_goals (first | rfl | omega | simp_all))) ?_ ?_
  · intro i hi hI
    have e := map_getT encT l i hi
    simp only [go_sem, seval, reduceCtorEq, List.length_map, e, encT_eq]
    try simp only [go_sem, seval, reduceCtorEq, List.length_map, e, encT_eq]
    repeat (first | refine WK.blockSeq ?_ | refine WK.blockCond ?_ | refine WK.blockReg ?_ | (refine WK.condT ?_ ?_; (focus (simp only [go_sem, seval, reduceCtorEq, List.length_map, e, encT_eq]; done))) | (refine WK.condF ?_ ?_; (focus (simp only [go_sem, seval, reduceCtorEq, List.length_map, e, encT_eq]; done))) | refine WK.seq ?_ | ((first | refine WK.reg ?_ | refine WK.skip ?_ | refine WK.ret ?_ | refine WK.exit ?_); simp only [go_sem, seval, reduceCtorEq, List.length_map, e, encT_eq]) | ((with_reducible refine And.intro ?_ ?_); omega) | omega)
    cases h : (s == l[i]) with
    | true =>
      try simp only [go_sem, seval, reduceCtorEq, List.length_map, e, encT_eq, h]
      repeat (first | refine WK.blockSeq ?_ | refine WK.blockCond ?_ | refine WK.blockReg ?_ | (refine WK.condT ?_ ?_; (focus (simp only [go_sem, seval, reduceCtorEq, List.length_map, e, encT_eq, h]; done))) | (refine WK.condF ?_ ?_; (focus (simp only [go_sem, seval, reduceCtorEq, List.length_map, e, encT_eq, h]; done))) | refine WK.seq ?_ | ((first | refine WK.reg ?_ | refine WK.skip ?_ | refine WK.ret ?_ | refine WK.exit ?_); simp only [go_sem, seval, reduceCtorEq, List.length_map, e, encT_eq, h]) | ((with_reducible refine And.intro ?_ ?_); omega) | omega)
      have e2 : idxT s l = (i : Int) := by
        unfold idxT
        rw [idxF_drop _ l 0 i hI, List.drop_eq_getElem_cons hi]
        simp [idxF, h]
      rw [e2]
    | false =>
      try simp only [go_sem, seval, reduceCtorEq, List.length_map, e, encT_eq, h]
      repeat (first | refine WK.blockSeq ?_ | refine WK.blockCond ?_ | refine WK.blockReg ?_ | (refine WK.condT ?_ ?_; (focus (simp only [go_sem, seval, reduceCtorEq, List.length_map, e, encT_eq, h]; done))) | (refine WK.condF ?_ ?_; (focus (simp only [go_sem, seval, reduceCtorEq, List.length_map, e, encT_eq, h]; done))) | refine WK.seq ?_ | ((first | refine WK.reg ?_ | refine WK.skip ?_ | refine WK.ret ?_ | refine WK.exit ?_); simp only [go_sem, seval, reduceCtorEq, List.length_map, e, encT_eq, h]) | ((with_reducible refine And.intro ?_ ?_); omega) | omega)
      exact take_stepT hi hI h
  · intro hI
    rw [List.take_length] at hI
    simp only [go_sem, seval, reduceCtorEq, List.length_map]
    try simp only [go_sem, seval, reduceCtorEq, List.length_map]
    repeat (first | refine WK.blockSeq ?_ | refine WK.blockCond ?_ | refine WK.blockReg ?_ | (refine WK.condT ?_ ?_; (focus (simp only [go_sem, seval, reduceCtorEq, List.length_map]; done))) | (refine WK.condF ?_ ?_; (focus (simp only [go_sem, seval, reduceCtorEq, List.length_map]; done))) | refine WK.seq ?_ | ((first | refine WK.reg ?_ | refine WK.skip ?_ | refine WK.ret ?_ | refine WK.exit ?_); simp only [go_sem, seval, reduceCtorEq, List.length_map]) | ((with_reducible refine And.intro ?_ ?_); omega) | omega)
    have e2 : idxT s l = -1 := by
      unfold idxT
      rw [idxF_drop _ l 0 l.length (by rw [List.take_length]; exact hI), List.drop_length]
      rfl
    rw [e2]
theorem containsT_ok (l : List Bs) (s : Bs) (hl : l.length < 9223372036854775807) : PCall (C gl) 62 [.list false (l.map encT), .str (tx s)] (.bool (l.any fun t => s == t)) := by
  refine pcallX (callX_of b62 (by simp [Tryd.ntmps62]) ?_) (by simp only [AllCl, cl_str, cl_list, and_true]; exact of_eq_true (clE_T _)) (.bool _)
  refine W.of ?_
  rw [Tryd.ntmps62]
  simp only [toK, codeOf, Tryd.f62, go_sem, seval, reduceCtorEq]
  try simp only [go_sem, seval, reduceCtorEq]
  repeat (first | refine WK.blockSeq ?_ | refine WK.blockCond ?_ | refine WK.blockReg ?_ | (refine WK.condT ?_ ?_; (focus (simp only [go_sem, seval, reduceCtorEq]; done))) | (refine WK.condF ?_ ?_; (focus (simp only [go_sem, seval, reduceCtorEq]; done))) | refine WK.seq ?_ | ((first | refine WK.reg ?_ | refine WK.skip ?_ | refine WK.ret ?_ | refine WK.exit ?_); simp only [go_sem, seval, reduceCtorEq]) | ((with_reducible refine And.intro ?_ ?_); omega) | omega)
  refine callK_pureL (indexT_ok (gl := gl) l s hl) rfl ?_ ?_ ?_ <;> simp only [go_sem, seval, reduceCtorEq]
  try simp only [go_sem, seval, reduceCtorEq]
  repeat (first | refine WK.blockSeq ?_ | refine WK.blockCond ?_ | refine WK.blockReg ?_ | (refine WK.condT ?_ ?_; (focus (simp only [go_sem, seval, reduceCtorEq]; done))) | (refine WK.condF ?_ ?_; (focus (simp only [go_sem, seval, reduceCtorEq]; done))) | refine WK.seq ?_ | ((first | refine WK.reg ?_ | refine WK.skip ?_ | refine WK.ret ?_ | refine WK.exit ?_); simp only [go_sem, seval, reduceCtorEq]) | ((with_reducible refine And.intro ?_ ?_); omega) | omega)
  exact idxF_any _ l 0

/-! ### A set of bytes -/
def setA (p : Nat → Bool) : List AV := (List.range 256).map fun i => .bool (p i)
theorem setA_len (p : Nat → Bool) : (setA p).length = 256 := by simp [setA]
theorem setA_get (p : Nat → Bool) {i : Nat} (h : i < 256) : (setA p).getD i .undef = .bool (p i) := by simp [setA, List.getD, h]
theorem setA_repl : List.replicate 256 (AV.bool false) = setA (fun _ => false) := by
  unfold setA
  rw [List.map_const', List.length_range]
theorem setA_wr (p : Nat → Bool) {i : Nat} (h : i < 256) : wr (setA p) i [.bool true] = setA (fun k => p k || i == k) := by
  apply List.ext_getElem?
  intro j
  rw [wr_get (by rw [setA_len]; simp; omega)]
  simp only [List.length_cons, List.length_nil]
  by_cases hj : i ≤ j ∧ j < i + 1
  · rw [if_pos hj]
    have : j = i := by omega
    subst this
    simp [setA, h]
  · rw [if_neg hj]
    have hne : (i == j) = false := by simp; omega
    unfold setA
    by_cases hj2 : j < 256
    · simp [hj2, hne]
    · simp [hj2]
theorem setA_take (p : Nat → Bool) : (setA p).take 256 = setA p := by rw [← setA_len p, List.take_length]
theorem ze229 : ofV (tX 99).zero = .agg (List.replicate 256 (.bool false)) := by kernel_rfl
theorem belL_setA {m : Nat} (p : Nat → Bool) : BelL m (setA p) = True := eq_true (belL_iff.2 fun c hc => by
  obtain ⟨i, _, rfl⟩ := List.mem_map.1 hc
  exact .bool _)
theorem setA_one (p : Nat → Bool) : (setA p).all AV.one = true := by simp [setA, List.all_eq_true, AV.one]
attribute [go_sem] setA_len setA_take ze229 belL_setA setA_one
theorem u8_lt (c : UInt8) : c.toNat < 256 := c.toNat_lt
theorem contains_ok (id : Nat) (p : Nat → Bool) (c : UInt8) (σ : Sto) (h : σ.get id = some (.box (setA p))) : CallX (C gl) 85 [.ptr id 0, .int .u8 (c.toNat : Int)] σ (.bool (p c.toNat)) σ := by
  refine callX_of b85 (by simp [Tryd.ntmps85]) ?_
  have hc := u8_lt c
  have hg := setA_get p hc
  refine W.of ?_
  rw [Tryd.ntmps85]
  simp only [toK, codeOf, Tryd.f85, go_sem, seval, reduceCtorEq]
  try simp only [go_sem, seval, reduceCtorEq, h, hg]
  repeat (first | refine WK.blockSeq ?_ | refine WK.blockCond ?_ | refine WK.blockReg ?_ | (refine WK.condT ?_ ?_; (focus (simp only [go_sem, seval, reduceCtorEq, h, hg]; done))) | (refine WK.condF ?_ ?_; (focus (simp only [go_sem, seval, reduceCtorEq, h, hg]; done))) | refine WK.seq ?_ | ((first | refine WK.reg ?_ | refine WK.skip ?_ | refine WK.ret ?_ | refine WK.exit ?_); simp only [go_sem, seval, reduceCtorEq, h, hg]) | ((with_reducible refine And.intro ?_ ?_); omega) | omega)
def memN (cs : Bs) (i : Nat) : Bool := cs.any fun c => c.toNat == i
theorem trimL_ok (id : Nat) (p : Nat → Bool) (s : Bs) (σ : Sto) (h : σ.get id = some (.box (setA p))) : CallX (C gl) 81 [.str (tx s), .ptr id 0] σ (.str (tx (s.dropWhile fun c => p c.toNat))) σ := by
  refine callX_of b81 (by simp [Tryd.ntmps81]) ?_
  refine W.of ?_
  rw [Tryd.ntmps81]
  simp only [toK, codeOf, Tryd.f81, go_sem, seval, reduceCtorEq]
  try simp only [go_sem, seval, reduceCtorEq, h]
  repeat (first | refine WK.blockSeq ?_ | refine WK.blockCond ?_ | refine WK.blockReg ?_ | (refine WK.condT ?_ ?_; (focus (simp only [go_sem, seval, reduceCtorEq, h]; done))) | (refine WK.condF ?_ ?_; (focus (simp only [go_sem, seval, reduceCtorEq, h]; done))) | refine WK.seq ?_ | ((first | refine WK.reg ?_ | refine WK.skip ?_ | refine WK.ret ?_ | refine WK.exit ?_); simp only [go_sem, seval, reduceCtorEq, h]) | ((with_reducible refine And.intro ?_ ?_); omega) | omega)
  refine WK.block ?_
  refine WK.loopX [1] [0] (fun l : Bs => [.str (tx l)]) (fun _ => σ) (fun l => l.dropWhile (fun c => p c.toNat) = s.dropWhile fun c => p c.toNat) (fun l => l.length) s (by decide) rfl (by simp only [go_sem, seval, reduceCtorEq]) rfl ?_
  intro l hI
  simp only [go_sem, seval, reduceCtorEq]
  cases l with
  | nil =>
    try simp only [go_sem, seval, reduceCtorEq, h]
    repeat (first | refine WK.blockSeq ?_ | refine WK.blockCond ?_ | refine WK.blockReg ?_ | (refine WK.condT ?_ ?_; (focus (simp only [go_sem, seval, reduceCtorEq, h]; done))) | (refine WK.condF ?_ ?_; (focus (simp only [go_sem, seval, reduceCtorEq, h]; done))) | refine WK.seq ?_ | ((first | refine WK.reg ?_ | refine WK.skip ?_ | refine WK.ret ?_ | refine WK.exit ?_); simp only [go_sem, seval, reduceCtorEq, h]) | ((with_reducible refine And.intro ?_ ?_); omega) | omega)
    refine WK.cond _ (by simp only [go_sem, seval, reduceCtorEq, h]; rfl) (fun hb => ?_) (fun hb => ?_)
    · simp at hb
    · try simp only [go_sem, seval, reduceCtorEq, h]
      repeat (first | refine WK.blockSeq ?_ | refine WK.blockCond ?_ | refine WK.blockReg ?_ | (refine WK.condT ?_ ?_; (focus (simp only [go_sem, seval, reduceCtorEq, h]; done))) | (refine WK.condF ?_ ?_; (focus (simp only [go_sem, seval, reduceCtorEq, h]; done))) | refine WK.seq ?_ | ((first | refine WK.reg ?_ | refine WK.skip ?_ | refine WK.ret ?_ | refine WK.exit ?_); simp only [go_sem, seval, reduceCtorEq, h]) | ((with_reducible refine And.intro ?_ ?_); omega) | omega)
      rw [← hI]
      exact .refl _
  | cons c r =>
    try simp only [go_sem, seval, reduceCtorEq, h]
    repeat (first | refine WK.blockSeq ?_ | refine WK.blockCond ?_ | refine WK.blockReg ?_ | (refine WK.condT ?_ ?_; (focus (simp only [go_sem, seval, reduceCtorEq, h]; done))) | (refine WK.condF ?_ ?_; (focus (simp only [go_sem, seval, reduceCtorEq, h]; done))) | refine WK.seq ?_ | ((first | refine WK.reg ?_ | refine WK.skip ?_ | refine WK.ret ?_ | refine WK.exit ?_); simp only [go_sem, seval, reduceCtorEq, h]) | ((with_reducible refine And.intro ?_ ?_); omega) | omega)
    refine WK.cond _ (by simp only [go_sem, seval, reduceCtorEq, h]; rfl) (fun hb => ?_) (fun hb => ?_)
    · have e0 : byI (c :: r) 0 = (c.toNat : Int) := rfl
      try simp only [go_sem, seval, reduceCtorEq, h, e0]
      repeat (first | refine WK.blockSeq ?_ | refine WK.blockCond ?_ | refine WK.blockReg ?_ | (refine WK.condT ?_ ?_; (focus (simp only [go_sem, seval, reduceCtorEq, h, e0]; done))) | (refine WK.condF ?_ ?_; (focus (simp only [go_sem, seval, reduceCtorEq, h, e0]; done))) | refine WK.seq ?_ | ((first | refine WK.reg ?_ | refine WK.skip ?_ | refine WK.ret ?_ | refine WK.exit ?_); simp only [go_sem, seval, reduceCtorEq, h, e0]) | ((with_reducible refine And.intro ?_ ?_); omega) | omega)
      refine callK_x0 (contains_ok (gl := gl) id p c σ h) rfl ?_ ?_ ?_ <;> simp only [go_sem, seval, reduceCtorEq, h]
      cases hp : p c.toNat with
      | false =>
        try simp only [go_sem, seval, reduceCtorEq, h]
        repeat (first | refine WK.blockSeq ?_ | refine WK.blockCond ?_ | refine WK.blockReg ?_ | (refine WK.condT ?_ ?_; (focus (simp only [go_sem, seval, reduceCtorEq, h]; done))) | (refine WK.condF ?_ ?_; (focus (simp only [go_sem, seval, reduceCtorEq, h]; done))) | refine WK.seq ?_ | ((first | refine WK.reg ?_ | refine WK.skip ?_ | refine WK.ret ?_ | refine WK.exit ?_); simp only [go_sem, seval, reduceCtorEq, h]) | ((with_reducible refine And.intro ?_ ?_); omega) | omega)
        rw [← hI]
        simp only [List.dropWhile_cons, hp, if_false, Bool.false_eq_true]
        exact .refl _
      | true =>
        try simp only [go_sem, seval, reduceCtorEq, h, List.length_cons, List.take_length]
        repeat (first | refine WK.blockSeq ?_ | refine WK.blockCond ?_ | refine WK.blockReg ?_ | (refine WK.condT ?_ ?_; (focus (simp only [go_sem, seval, reduceCtorEq, h, List.length_cons, List.take_length]; done))) | (refine WK.condF ?_ ?_; (focus (simp only [go_sem, seval, reduceCtorEq, h, List.length_cons, List.take_length]; done))) | refine WK.seq ?_ | ((first | refine WK.reg ?_ | refine WK.skip ?_ | refine WK.ret ?_ | refine WK.exit ?_); simp only [go_sem, seval, reduceCtorEq, h, List.length_cons, List.take_length]) | ((with_reducible refine And.intro ?_ ?_); omega) | omega)
        refine ⟨r, ?_, Nat.lt_succ_self _, .refl _⟩
        rw [← hI]
        simp only [List.dropWhile_cons, hp, if_true]
    · simp at hb
def rdrop (q : UInt8 → Bool) (s : Bs) : Bs := (s.reverse.dropWhile q).reverse
theorem rdrop_snoc (q : UInt8 → Bool) (r : Bs) (c : UInt8) : rdrop q (r ++ [c]) = if q c = true then rdrop q r else r ++ [c] := by
  unfold rdrop
  rw [List.reverse_append, List.reverse_singleton, List.singleton_append, List.dropWhile_cons]
  split
  · rfl
  · simp
theorem trimR_ok (id : Nat) (p : Nat → Bool) (s : Bs) (hs : s.length < 1000000000) (σ : Sto) (h : σ.get id = some (.box (setA p))) : CallX (C gl) 82 [.str (tx s), .ptr id 0] σ (.str (tx (rdrop (fun c => p c.toNat) s))) σ := by
  refine callX_of b82 (by simp [Tryd.ntmps82]) ?_
  refine W.of ?_
  rw [Tryd.ntmps82]
  simp only [toK, codeOf, Tryd.f82, go_sem, seval, reduceCtorEq]
  try simp only [go_sem, seval, reduceCtorEq, h]
  repeat (first | refine WK.blockSeq ?_ | refine WK.blockCond ?_ | refine WK.blockReg ?_ | (refine WK.condT ?_ ?_; (focus (simp only [go_sem, seval, reduceCtorEq, h]; done))) | (refine WK.condF ?_ ?_; (focus (simp only [go_sem, seval, reduceCtorEq, h]; done))) | refine WK.seq ?_ | ((first | refine WK.reg ?_ | refine WK.skip ?_ | refine WK.ret ?_ | refine WK.exit ?_); simp only [go_sem, seval, reduceCtorEq, h]) | ((with_reducible refine And.intro ?_ ?_); omega) | omega)
  refine WK.block ?_
  refine WK.loopX [1] [0] (fun l : Bs => [.str (tx l)]) (fun _ => σ) (fun l => rdrop (fun c => p c.toNat) l = rdrop (fun c => p c.toNat) s ∧ l.length < 1000000000) (fun l => l.length) s (by decide) ⟨rfl, hs⟩ (by simp only [go_sem, seval, reduceCtorEq]) rfl ?_
  rintro l ⟨hI, hll⟩
  simp only [go_sem, seval, reduceCtorEq]
  rcases List.eq_nil_or_concat l with rfl | ⟨r, c, rfl⟩
  · try simp only [go_sem, seval, reduceCtorEq, h]
    repeat (first | refine WK.blockSeq ?_ | refine WK.blockCond ?_ | refine WK.blockReg ?_ | (refine WK.condT ?_ ?_; (focus (simp only [go_sem, seval, reduceCtorEq, h]; done))) | (refine WK.condF ?_ ?_; (focus (simp only [go_sem, seval, reduceCtorEq, h]; done))) | refine WK.seq ?_ | ((first | refine WK.reg ?_ | refine WK.skip ?_ | refine WK.ret ?_ | refine WK.exit ?_); simp only [go_sem, seval, reduceCtorEq, h]) | ((with_reducible refine And.intro ?_ ?_); omega) | omega)
    refine WK.cond _ (by simp only [go_sem, seval, reduceCtorEq, h]; rfl) (fun hb => ?_) (fun hb => ?_)
    · simp at hb
    · try simp only [go_sem, seval, reduceCtorEq, h]
      repeat (first | refine WK.blockSeq ?_ | refine WK.blockCond ?_ | refine WK.blockReg ?_ | (refine WK.condT ?_ ?_; (focus (simp only [go_sem, seval, reduceCtorEq, h]; done))) | (refine WK.condF ?_ ?_; (focus (simp only [go_sem, seval, reduceCtorEq, h]; done))) | refine WK.seq ?_ | ((first | refine WK.reg ?_ | refine WK.skip ?_ | refine WK.ret ?_ | refine WK.exit ?_); simp only [go_sem, seval, reduceCtorEq, h]) | ((with_reducible refine And.intro ?_ ?_); omega) | omega)
      rw [← hI]
      exact .refl _
  · rw [List.concat_eq_append] at hI hll
    rw [List.concat_eq_append]
    rw [rdrop_snoc] at hI
    have hlen : (r ++ [c]).length = r.length + 1 := by simp
    rw [hlen] at hll
    try simp only [go_sem, seval, reduceCtorEq, h, hlen]
    repeat (first | refine WK.blockSeq ?_ | refine WK.blockCond ?_ | refine WK.blockReg ?_ | (refine WK.condT ?_ ?_; (focus (simp only [go_sem, seval, reduceCtorEq, h, hlen]; done))) | (refine WK.condF ?_ ?_; (focus (simp only [go_sem, seval, reduceCtorEq, h, hlen]; done))) | refine WK.seq ?_ | ((first | refine WK.reg ?_ | refine WK.skip ?_ | refine WK.ret ?_ | refine WK.exit ?_); simp only [go_sem, seval, reduceCtorEq, h, hlen]) | ((with_reducible refine And.intro ?_ ?_); omega) | omega)
    refine WK.cond _ (by simp only [go_sem, seval, reduceCtorEq, h, hlen]; rfl) (fun hb => ?_) (fun hb => ?_)
    · have hw : IntKind.i64.wrap (((r.length + 1 : Nat) : Int) - 1) = (r.length : Int) := by rw [wrap_lt (by omega) (by omega)]; omega
      have e0 : byI (r ++ [c]) r.length = (c.toNat : Int) := by unfold byI; simp [List.getD_eq_getElem?_getD]
      have e1 : (r ++ [c]).take r.length = r := by simp
      try simp only [go_sem, seval, reduceCtorEq, h, hlen, hw, e0, e1]
      repeat (first | refine WK.blockSeq ?_ | refine WK.blockCond ?_ | refine WK.blockReg ?_ | (refine WK.condT ?_ ?_; (focus (simp only [go_sem, seval, reduceCtorEq, h, hlen, hw, e0, e1]; done))) | (refine WK.condF ?_ ?_; (focus (simp only [go_sem, seval, reduceCtorEq, h, hlen, hw, e0, e1]; done))) | refine WK.seq ?_ | ((first | refine WK.reg ?_ | refine WK.skip ?_ | refine WK.ret ?_ | refine WK.exit ?_); simp only [go_sem, seval, reduceCtorEq, h, hlen, hw, e0, e1]) | ((with_reducible refine And.intro ?_ ?_); omega) | omega)
      refine callK_x0 (contains_ok (gl := gl) id p c σ h) rfl ?_ ?_ ?_ <;> simp only [go_sem, seval, reduceCtorEq, h, hlen, hw, e0, e1]
      cases hp : p c.toNat with
      | false =>
        try simp only [go_sem, seval, reduceCtorEq, h, hlen, hw, e0, e1]
        repeat (first | refine WK.blockSeq ?_ | refine WK.blockCond ?_ | refine WK.blockReg ?_ | (refine WK.condT ?_ ?_; (focus (simp only [go_sem, seval, reduceCtorEq, h, hlen, hw, e0, e1]; done))) | (refine WK.condF ?_ ?_; (focus (simp only [go_sem, seval, reduceCtorEq, h, hlen, hw, e0, e1]; done))) | refine WK.seq ?_ | ((first | refine WK.reg ?_ | refine WK.skip ?_ | refine WK.ret ?_ | refine WK.exit ?_); simp only [go_sem, seval, reduceCtorEq, h, hlen, hw, e0, e1]) | ((with_reducible refine And.intro ?_ ?_); omega) | omega)
        rw [← hI, if_neg (by simp [hp])]
        exact .refl _
      | true =>
        rw [if_pos hp] at hI
        try simp only [go_sem, seval, reduceCtorEq, h, hlen, hw, e0, e1]
        repeat (first | refine WK.blockSeq ?_ | refine WK.blockCond ?_ | refine WK.blockReg ?_ | (refine WK.condT ?_ ?_; (focus (simp only [go_sem, seval, reduceCtorEq, h, hlen, hw, e0, e1]; done))) | (refine WK.condF ?_ ?_; (focus (simp only [go_sem, seval, reduceCtorEq, h, hlen, hw, e0, e1]; done))) | refine WK.seq ?_ | ((first | refine WK.reg ?_ | refine WK.skip ?_ | refine WK.ret ?_ | refine WK.exit ?_); simp only [go_sem, seval, reduceCtorEq, h, hlen, hw, e0, e1]) | ((with_reducible refine And.intro ?_ ?_); omega) | omega)
        exact ⟨r, ⟨hI, by omega⟩, Nat.lt_succ_self _, .refl _⟩
    · simp at hb
theorem allCl_of : ∀ {l : List AV}, (∀ c ∈ l, Closed c) → AllCl l
  | [], _ => trivial
  | x :: l, h => ⟨h x (List.mem_cons_self ..), allCl_of fun c hc => h c (List.mem_cons_of_mem _ hc)⟩
theorem memN_nil : memN [] = fun _ => false := (rfl)
theorem memN_take (cs : Bs) (k : Nat) (h : k < cs.length) : memN (cs.take (k + 1)) = fun i => memN (cs.take k) i || (cs[k].toNat == i) := by
  funext i
  unfold memN
  rw [← List.take_append_getElem h, List.any_append]
  simp
theorem mkset_ok (cs : Bs) (hc : ∀ c ∈ cs, c.toNat < 128) (hl : cs.length < 1000000) : PCall (C gl) 80 [.str (tx cs)] (.tup [.agg (setA (memN cs)), .bool true]) := by
  refine pcallX (callX_of b80 (by simp [Tryd.ntmps80]) ?_) (by simp only [AllCl, cl_str, and_true]) (by simp only [cl_tup, AllCl, cl_bool, cl_agg, and_true]; exact allCl_of fun c hc => by (obtain ⟨i, _, rfl⟩ := List.mem_map.1 hc; exact .bool _))
  refine W.of ?_
  rw [Tryd.ntmps80]
  simp only [toK, codeOf, Tryd.f80, go_sem, seval, reduceCtorEq]
  try simp only [go_sem, seval, reduceCtorEq]
  repeat (first | refine WK.blockSeq ?_ | refine WK.blockCond ?_ | refine WK.blockReg ?_ | (refine WK.condT ?_ ?_; (focus (simp only [go_sem, seval, reduceCtorEq]; done))) | (refine WK.condF ?_ ?_; (focus (simp only [go_sem, seval, reduceCtorEq]; done))) | refine WK.seq ?_ | ((first | refine WK.reg ?_ | refine WK.skip ?_ | refine WK.ret ?_ | refine WK.exit ?_); simp only [go_sem, seval, reduceCtorEq]) | ((with_reducible refine And.intro ?_ ?_); omega) | omega)
  refine WK.block ?_
  refine WK.loopX [0, 2] [4] (fun k : Nat => [.int .i64 k]) (fun k => Sto.none.add (.box (setA (memN (cs.take k))))) (fun k => k ≤ cs.length) (fun k => cs.length - k) 0 (by decide) (Nat.zero_le _) (by simp only [go_sem, seval, reduceCtorEq]) (by rw [List.take_zero, memN_nil, ← setA_repl]; kernel_rfl) ?_
  intro k hk
  simp only [go_sem, seval, reduceCtorEq]
  by_cases hb : k < cs.length
  · have hbd : decide ((k : Int) < (cs.length : Int)) = true := by simp; omega
    have e0 : byI cs k = ((cs[k]).toNat : Int) := by unfold byI; simp [List.getD_eq_getElem?_getD, hb]
    have hlt := hc cs[k] (List.getElem_mem hb)
    have e1 : decide ((cs[k].toNat : Int) ≥ 128) = false := by simp; omega
    have e2 := setA_wr (memN (cs.take k)) (show cs[k].toNat < 256 by omega)
    have e3 := memN_take cs k hb
    have hw : IntKind.i64.wrap ((k : Int) + 1) = ((k + 1 : Nat) : Int) := by rw [wrap_lt (by omega) (by omega)]; omega
    rw [wr] at e2
    try simp only [go_sem, seval, reduceCtorEq, hbd, e0, e1, e2, hw]
    repeat (first | refine WK.blockSeq ?_ | refine WK.blockCond ?_ | refine WK.blockReg ?_ | (refine WK.condT ?_ ?_; (focus (simp only [go_sem, seval, reduceCtorEq, hbd, e0, e1, e2, hw]; done))) | (refine WK.condF ?_ ?_; (focus (simp only [go_sem, seval, reduceCtorEq, hbd, e0, e1, e2, hw]; done))) | refine WK.seq ?_ | ((first | refine WK.reg ?_ | refine WK.skip ?_ | refine WK.ret ?_ | refine WK.exit ?_); simp only [go_sem, seval, reduceCtorEq, hbd, e0, e1, e2, hw]) | ((with_reducible refine And.intro ?_ ?_); omega) | omega)
    refine ⟨k + 1, by omega, by omega, rfl, ?_⟩
    simp only [List.length_cons, List.length_nil, Nat.zero_add] at e2
    rw [e3, ← e2]
    refine Cut.by' (by first | exact Nat.le_refl _ | (simp only [Sto.get_add, Sto.get_set, Sto.get_del, Sto.get_none, Sto.next_add, Sto.next_set, Sto.next_del, Sto.next_none]; omega)) (by first | exact Nat.le_refl _ | (simp only [Sto.get_add, Sto.get_set, Sto.get_del, Sto.get_none, Sto.next_add, Sto.next_set, Sto.next_del, Sto.next_none]; omega)) (fun i hi => ?_) (fun i o hi ho => ?_)
    · (try simp only [Sto.get_add, Sto.get_set, Sto.get_del, Sto.get_none, Sto.next_add, Sto.next_set, Sto.next_del, Sto.next_none] at hi ⊢); ((repeat' split) <;> first | exact .inl rfl | exact .inr rfl | omega | (simp_all; done))
    · (try simp only [Sto.get_add, Sto.get_set, Sto.get_del, Sto.get_none, Sto.next_add, Sto.next_set, Sto.next_del, Sto.next_none] at hi ho ⊢); ((repeat' split at ho) <;> (repeat' split) <;> first | (exact ⟨ho, .inl ho⟩) | (cases ho; done) | omega | (cases ho; refine ⟨rfl, .inl rfl⟩) | (cases ho; refine ⟨rfl, .inr ?_⟩; simp only [go_sem, seval, reduceCtorEq, hbd, e0, e1, e2, hw]; first | done | omega | (refine ⟨?_, ?_⟩ <;> omega)) | (simp_all; done))
  · have hbd : decide ((k : Int) < (cs.length : Int)) = false := by simp; omega
    have hk2 : k = cs.length := by omega
    subst hk2
    have e0 : (setA (memN cs)).drop 256 = [] := List.drop_of_length_le (by rw [setA_len]; exact Nat.le_refl _)
    try simp only [go_sem, seval, reduceCtorEq, hbd, List.take_length, e0, List.append_nil]
    repeat (first | refine WK.blockSeq ?_ | refine WK.blockCond ?_ | refine WK.blockReg ?_ | (refine WK.condT ?_ ?_; (focus (simp only [go_sem, seval, reduceCtorEq, hbd, List.take_length, e0, List.append_nil]; done))) | (refine WK.condF ?_ ?_; (focus (simp only [go_sem, seval, reduceCtorEq, hbd, List.take_length, e0, List.append_nil]; done))) | refine WK.seq ?_ | ((first | refine WK.reg ?_ | refine WK.skip ?_ | refine WK.ret ?_ | refine WK.exit ?_); simp only [go_sem, seval, reduceCtorEq, hbd, List.take_length, e0, List.append_nil]) | ((with_reducible refine And.intro ?_ ?_); omega) | omega)
    exact cut_none _
def alnumC : Bs := [97, 98, 99, 100, 101, 102, 103, 104, 105, 106, 107, 108, 109, 110, 111, 112, 113, 114, 115, 116, 117, 118, 119, 120, 121, 122, 48, 49, 50, 51, 52, 53, 54, 55, 56, 57]
def alnum (c : UInt8) : Bool := memN alnumC c.toNat
def trimS (s : Bs) : Bs := (rdrop alnum s).dropWhile alnum
theorem trim_ok (s : Bs) (hs : s.length < 1000000000) : PCall (C gl) 74 [.str (tx s), .str (tx alnumC)] (.str (tx (trimS s))) := by
  refine pcallX (callX_of b74 (by simp [Tryd.ntmps74]) ?_) (by simp only [AllCl, cl_str, and_true]) (by simp only [cl_str])
  have hal : (alnumC == []) = false := by decide
  have hll : alnumC.length = 36 := rfl
  refine W.of ?_
  rw [Tryd.ntmps74]
  simp only [toK, codeOf, Tryd.f74, go_sem, seval, reduceCtorEq]
  cases hz : (s == []) with
  | true =>
    have : s = [] := eq_of_beq hz
    subst this
    try simp only [go_sem, seval, reduceCtorEq, hal, hll]
    repeat (first | refine WK.blockSeq ?_ | refine WK.blockCond ?_ | refine WK.blockReg ?_ | (refine WK.condT ?_ ?_; (focus (simp only [go_sem, seval, reduceCtorEq, hal, hll]; done))) | (refine WK.condF ?_ ?_; (focus (simp only [go_sem, seval, reduceCtorEq, hal, hll]; done))) | refine WK.seq ?_ | ((first | refine WK.reg ?_ | refine WK.skip ?_ | refine WK.ret ?_ | refine WK.exit ?_); simp only [go_sem, seval, reduceCtorEq, hal, hll]) | ((with_reducible refine And.intro ?_ ?_); omega) | omega)
    exact .refl _
  | false =>
    try simp only [go_sem, seval, reduceCtorEq, hal, hll, hz]
    repeat (first | refine WK.blockSeq ?_ | refine WK.blockCond ?_ | refine WK.blockReg ?_ | (refine WK.condT ?_ ?_; (focus (simp only [go_sem, seval, reduceCtorEq, hal, hll, hz]; done))) | (refine WK.condF ?_ ?_; (focus (simp only [go_sem, seval, reduceCtorEq, hal, hll, hz]; done))) | refine WK.seq ?_ | ((first | refine WK.reg ?_ | refine WK.skip ?_ | refine WK.ret ?_ | refine WK.exit ?_); simp only [go_sem, seval, reduceCtorEq, hal, hll, hz]) | ((with_reducible refine And.intro ?_ ?_); omega) | omega)
    refine callK_pureL (mkset_ok (gl := gl) alnumC (by decide) (by decide)) rfl ?_ ?_ ?_ <;> simp only [go_sem, seval, reduceCtorEq, hal, hll]
    try simp only [go_sem, seval, reduceCtorEq, hal, hll]
    repeat (first | refine WK.blockSeq ?_ | refine WK.blockCond ?_ | refine WK.blockReg ?_ | (refine WK.condT ?_ ?_; (focus (simp only [go_sem, seval, reduceCtorEq, hal, hll]; done))) | (refine WK.condF ?_ ?_; (focus (simp only [go_sem, seval, reduceCtorEq, hal, hll]; done))) | refine WK.seq ?_ | ((first | refine WK.reg ?_ | refine WK.skip ?_ | refine WK.ret ?_ | refine WK.exit ?_); simp only [go_sem, seval, reduceCtorEq, hal, hll]) | ((with_reducible refine And.intro ?_ ?_); omega) | omega)
    refine callK_x0 (trimR_ok (gl := gl) 0 (memN alnumC) s hs (Sto.none.add (.box (setA (memN alnumC)))) (by rfl)) rfl ?_ ?_ ?_ <;> simp only [go_sem, seval, reduceCtorEq, hal, hll]
    try simp only [go_sem, seval, reduceCtorEq, hal, hll]
    repeat (first | refine WK.blockSeq ?_ | refine WK.blockCond ?_ | refine WK.blockReg ?_ | (refine WK.condT ?_ ?_; (focus (simp only [go_sem, seval, reduceCtorEq, hal, hll]; done))) | (refine WK.condF ?_ ?_; (focus (simp only [go_sem, seval, reduceCtorEq, hal, hll]; done))) | refine WK.seq ?_ | ((first | refine WK.reg ?_ | refine WK.skip ?_ | refine WK.ret ?_ | refine WK.exit ?_); simp only [go_sem, seval, reduceCtorEq, hal, hll]) | ((with_reducible refine And.intro ?_ ?_); omega) | omega)
    refine callK_x0 (trimL_ok (gl := gl) 0 (memN alnumC) (rdrop (fun c => memN alnumC c.toNat) s) (Sto.none.add (.box (setA (memN alnumC)))) (by rfl)) rfl ?_ ?_ ?_ <;> simp only [go_sem, seval, reduceCtorEq, hal, hll]
    try simp only [go_sem, seval, reduceCtorEq, hal, hll]
    repeat (first | refine WK.blockSeq ?_ | refine WK.blockCond ?_ | refine WK.blockReg ?_ | (refine WK.condT ?_ ?_; (focus (simp only [go_sem, seval, reduceCtorEq, hal, hll]; done))) | (refine WK.condF ?_ ?_; (focus (simp only [go_sem, seval, reduceCtorEq, hal, hll]; done))) | refine WK.seq ?_ | ((first | refine WK.reg ?_ | refine WK.skip ?_ | refine WK.ret ?_ | refine WK.exit ?_); simp only [go_sem, seval, reduceCtorEq, hal, hll]) | ((with_reducible refine And.intro ?_ ?_); omega) | omega)
    exact ⟨.refl _, cut_none _⟩

/-! ### Names -/
def trueT : Bs := [116, 114, 117, 101]
def falseT : Bs := [102, 97, 108, 115, 101]
def nameS (s : Bs) : Bool :=
  if s == [] || decide ((s.length : Int) > 12) || (s == trueT) || (s == falseT) || decide (byI s 0 < 97) || decide (byI s 0 > 122) then false else trimS s == []
theorem name_ok (s : Bs) (hs : s.length < 1000000000) : PCall (C gl) 61 [.str (tx s)] (.bool (nameS s)) := by
  refine pcallX (callX_of b61 (by simp [Tryd.ntmps61]) ?_) (by simp only [AllCl, cl_str, and_true]) (.bool _)
  refine W.of ?_
  rw [Tryd.ntmps61]
  simp only [toK, codeOf, Tryd.f61, go_sem, seval, reduceCtorEq]
  rw [show ([97, 98, 99, 100, 101, 102, 103, 104, 105, 106, 107, 108, 109, 110, 111, 112, 113, 114, 115, 116, 117, 118, 119, 120, 121, 122, 48, 49, 50, 51, 52, 53, 54, 55, 56, 57] : Bs) = alnumC from rfl, show ([116, 114, 117, 101] : Bs) = trueT from rfl, show ([102, 97, 108, 115, 101] : Bs) = falseT from rfl]
  cases z0 : (s == []) with
  | true =>
    try simp only [go_sem, seval, reduceCtorEq, z0]
    repeat (first | refine WK.blockSeq ?_ | refine WK.blockCond ?_ | refine WK.blockReg ?_ | (refine WK.condT ?_ ?_; (focus (simp only [go_sem, seval, reduceCtorEq, z0]; done))) | (refine WK.condF ?_ ?_; (focus (simp only [go_sem, seval, reduceCtorEq, z0]; done))) | refine WK.seq ?_ | ((first | refine WK.reg ?_ | refine WK.skip ?_ | refine WK.ret ?_ | refine WK.exit ?_); simp only [go_sem, seval, reduceCtorEq, z0]) | ((with_reducible refine And.intro ?_ ?_); omega) | omega)
    simp only [nameS, z0, Bool.true_or, Bool.or_true, if_true]
  | false =>
  have hlen : (0 : Int) < (s.length : Int) := by
    cases s with
    | nil => simp at z0
    | cons _ _ => simp
  cases z1 : decide ((s.length : Int) > 12) with
  | true =>
    try simp only [go_sem, seval, reduceCtorEq, z0, z1]
    repeat (first | refine WK.blockSeq ?_ | refine WK.blockCond ?_ | refine WK.blockReg ?_ | (refine WK.condT ?_ ?_; (focus (simp only [go_sem, seval, reduceCtorEq, z0, z1]; done))) | (refine WK.condF ?_ ?_; (focus (simp only [go_sem, seval, reduceCtorEq, z0, z1]; done))) | refine WK.seq ?_ | ((first | refine WK.reg ?_ | refine WK.skip ?_ | refine WK.ret ?_ | refine WK.exit ?_); simp only [go_sem, seval, reduceCtorEq, z0, z1]) | ((with_reducible refine And.intro ?_ ?_); omega) | omega)
    simp only [nameS, z0, z1, Bool.true_or, Bool.or_true, if_true]
  | false =>
  cases z2 : (s == trueT) with
  | true =>
    try simp only [go_sem, seval, reduceCtorEq, z0, z1, z2]
    repeat (first | refine WK.blockSeq ?_ | refine WK.blockCond ?_ | refine WK.blockReg ?_ | (refine WK.condT ?_ ?_; (focus (simp only [go_sem, seval, reduceCtorEq, z0, z1, z2]; done))) | (refine WK.condF ?_ ?_; (focus (simp only [go_sem, seval, reduceCtorEq, z0, z1, z2]; done))) | refine WK.seq ?_ | ((first | refine WK.reg ?_ | refine WK.skip ?_ | refine WK.ret ?_ | refine WK.exit ?_); simp only [go_sem, seval, reduceCtorEq, z0, z1, z2]) | ((with_reducible refine And.intro ?_ ?_); omega) | omega)
    simp only [nameS, z0, z1, z2, Bool.true_or, Bool.or_true, if_true]
  | false =>
  cases z3 : (s == falseT) with
  | true =>
    try simp only [go_sem, seval, reduceCtorEq, z0, z1, z2, z3]
    repeat (first | refine WK.blockSeq ?_ | refine WK.blockCond ?_ | refine WK.blockReg ?_ | (refine WK.condT ?_ ?_; (focus (simp only [go_sem, seval, reduceCtorEq, z0, z1, z2, z3]; done))) | (refine WK.condF ?_ ?_; (focus (simp only [go_sem, seval, reduceCtorEq, z0, z1, z2, z3]; done))) | refine WK.seq ?_ | ((first | refine WK.reg ?_ | refine WK.skip ?_ | refine WK.ret ?_ | refine WK.exit ?_); simp only [go_sem, seval, reduceCtorEq, z0, z1, z2, z3]) | ((with_reducible refine And.intro ?_ ?_); omega) | omega)
    simp only [nameS, z0, z1, z2, z3, Bool.true_or, Bool.or_true, if_true]
  | false =>
  cases z4 : decide (byI s 0 < 97) with
  | true =>
    try simp only [go_sem, seval, reduceCtorEq, z0, z1, z2, z3, z4, hlen]
    repeat (first | refine WK.blockSeq ?_ | refine WK.blockCond ?_ | refine WK.blockReg ?_ | (refine WK.condT ?_ ?_; (focus (simp only [go_sem, seval, reduceCtorEq, z0, z1, z2, z3, z4, hlen]; done))) | (refine WK.condF ?_ ?_; (focus (simp only [go_sem, seval, reduceCtorEq, z0, z1, z2, z3, z4, hlen]; done))) | refine WK.seq ?_ | ((first | refine WK.reg ?_ | refine WK.skip ?_ | refine WK.ret ?_ | refine WK.exit ?_); simp only [go_sem, seval, reduceCtorEq, z0, z1, z2, z3, z4, hlen]) | ((with_reducible refine And.intro ?_ ?_); omega) | omega)
    simp only [nameS, z0, z1, z2, z3, z4, Bool.true_or, Bool.or_true, if_true]
  | false =>
  cases z5 : decide (byI s 0 > 122) with
  | true =>
    try simp only [go_sem, seval, reduceCtorEq, z0, z1, z2, z3, z4, z5, hlen]
    repeat (first | refine WK.blockSeq ?_ | refine WK.blockCond ?_ | refine WK.blockReg ?_ | (refine WK.condT ?_ ?_; (focus (simp only [go_sem, seval, reduceCtorEq, z0, z1, z2, z3, z4, z5, hlen]; done))) | (refine WK.condF ?_ ?_; (focus (simp only [go_sem, seval, reduceCtorEq, z0, z1, z2, z3, z4, z5, hlen]; done))) | refine WK.seq ?_ | ((first | refine WK.reg ?_ | refine WK.skip ?_ | refine WK.ret ?_ | refine WK.exit ?_); simp only [go_sem, seval, reduceCtorEq, z0, z1, z2, z3, z4, z5, hlen]) | ((with_reducible refine And.intro ?_ ?_); omega) | omega)
    simp only [nameS, z0, z1, z2, z3, z4, z5, Bool.true_or, Bool.or_true, if_true]
  | false =>
  have e : nameS s = (trimS s == []) := by simp only [nameS, z0, z1, z2, z3, z4, z5, Bool.or_false, if_false, Bool.false_eq_true]
  try simp only [go_sem, seval, reduceCtorEq, z0, z1, z2, z3, z4, z5, hlen]
  repeat (first | refine WK.blockSeq ?_ | refine WK.blockCond ?_ | refine WK.blockReg ?_ | (refine WK.condT ?_ ?_; (focus (simp only [go_sem, seval, reduceCtorEq, z0, z1, z2, z3, z4, z5, hlen]; done))) | (refine WK.condF ?_ ?_; (focus (simp only [go_sem, seval, reduceCtorEq, z0, z1, z2, z3, z4, z5, hlen]; done))) | refine WK.seq ?_ | ((first | refine WK.reg ?_ | refine WK.skip ?_ | refine WK.ret ?_ | refine WK.exit ?_); simp only [go_sem, seval, reduceCtorEq, z0, z1, z2, z3, z4, z5, hlen]) | ((with_reducible refine And.intro ?_ ?_); omega) | omega)
  refine callK_pureL (trim_ok (gl := gl) s hs) rfl ?_ ?_ ?_ <;> simp only [go_sem, seval, reduceCtorEq]
  try simp only [go_sem, seval, reduceCtorEq]
  repeat (first | refine WK.blockSeq ?_ | refine WK.blockCond ?_ | refine WK.blockReg ?_ | (refine WK.condT ?_ ?_; (focus (simp only [go_sem, seval, reduceCtorEq]; done))) | (refine WK.condF ?_ ?_; (focus (simp only [go_sem, seval, reduceCtorEq]; done))) | refine WK.seq ?_ | ((first | refine WK.reg ?_ | refine WK.skip ?_ | refine WK.ret ?_ | refine WK.exit ?_); simp only [go_sem, seval, reduceCtorEq]) | ((with_reducible refine And.intro ?_ ?_); omega) | omega)
  rw [e]
def badN (l : List Bs) (i : Nat) : Bool := !nameS (l.getD i []) || (l.take i).any fun t => l.getD i [] == t
def namedS (l : List Bs) : Int :=
  if (l.length : Int) > 6 then 6 else if (List.range l.length).any (badN l) then 4 else 0
theorem named_ok (l : List Bs) (hl : l.length < 1000000000) (h : ∀ s ∈ l, s.length < 1000000000) : PCall (C gl) 49 [.list false (l.map encT)] (.int .i64 (namedS l)) := by
  refine pcallX (callX_of b49 (by simp [Tryd.ntmps49]) ?_) (by simp only [AllCl, cl_str, cl_list, and_true]; exact of_eq_true (clE_T _)) (.int _ _)
  refine W.of ?_
  rw [Tryd.ntmps49]
  simp only [toK, codeOf, Tryd.f49, go_sem, seval, reduceCtorEq]
  try simp only [go_sem, seval, reduceCtorEq, List.length_map]
  repeat (first | refine WK.blockSeq ?_ | refine WK.blockCond ?_ | refine WK.blockReg ?_ | (refine WK.condT ?_ ?_; (focus (simp only [go_sem, seval, reduceCtorEq, List.length_map]; done))) | (refine WK.condF ?_ ?_; (focus (simp only [go_sem, seval, reduceCtorEq, List.length_map]; done))) | refine WK.seq ?_ | ((first | refine WK.reg ?_ | refine WK.skip ?_ | refine WK.ret ?_ | refine WK.exit ?_); simp only [go_sem, seval, reduceCtorEq, List.length_map]) | ((with_reducible refine And.intro ?_ ?_); omega) | omega)
  refine WK.cond _ (by simp only [go_sem, seval, reduceCtorEq, List.length_map]; rfl) (fun hb => ?_) (fun hb => ?_)
  · try simp only [go_sem, seval, reduceCtorEq, List.length_map]
    repeat (first | refine WK.blockSeq ?_ | refine WK.blockCond ?_ | refine WK.blockReg ?_ | (refine WK.condT ?_ ?_; (focus (simp only [go_sem, seval, reduceCtorEq, List.length_map]; done))) | (refine WK.condF ?_ ?_; (focus (simp only [go_sem, seval, reduceCtorEq, List.length_map]; done))) | refine WK.seq ?_ | ((first | refine WK.reg ?_ | refine WK.skip ?_ | refine WK.ret ?_ | refine WK.exit ?_); simp only [go_sem, seval, reduceCtorEq, List.length_map]) | ((with_reducible refine And.intro ?_ ?_); omega) | omega)
    rw [namedS, if_pos (of_decide_eq_true hb)]
  · try simp only [go_sem, seval, reduceCtorEq, List.length_map]
    repeat (first | refine WK.blockSeq ?_ | refine WK.blockCond ?_ | refine WK.blockReg ?_ | (refine WK.condT ?_ ?_; (focus (simp only [go_sem, seval, reduceCtorEq, List.length_map]; done))) | (refine WK.condF ?_ ?_; (focus (simp only [go_sem, seval, reduceCtorEq, List.length_map]; done))) | refine WK.seq ?_ | ((first | refine WK.reg ?_ | refine WK.skip ?_ | refine WK.ret ?_ | refine WK.exit ?_); simp only [go_sem, seval, reduceCtorEq, List.length_map]) | ((with_reducible refine And.intro ?_ ?_); omega) | omega)
    have hn6 : ¬ (l.length : Int) > 6 := of_decide_eq_false hb
    refine WK.rangeI (l.length) [0, 8] [] (fun i => []) (fun i => Sto.none) (fun i => ∀ j, j < i → badN l j = false) (by simp) (by omega) (by decide) (by simp only [go_sem, seval, reduceCtorEq, List.length_map]) (by simp only [go_sem, seval, reduceCtorEq, List.length_map]) (by simp only [go_sem, seval, reduceCtorEq, List.length_map, List.take_zero]) (by first | rfl | (simp only [go_sem, seval, reduceCtorEq, List.length_map]; done) | (refine Sto.ext' (by simp only [go_sem, seval, reduceCtorEq, List.length_map]) (fun i => ?_); simp only [go_sem, seval, reduceCtorEq, List.length_map]; repeat' split; all_goals (first | rfl | omega | simp_all))) ?_ ?_
    · intro i hi hI
      have e := map_getT encT l i hi
      have e3 : l.getD i [] = l[i] := by simp [List.getD_eq_getElem?_getD, hi]
      simp only [go_sem, seval, reduceCtorEq, List.length_map, e, encT_eq]
      try simp only [go_sem, seval, reduceCtorEq, List.length_map, e, encT_eq]
      repeat (first | refine WK.blockSeq ?_ | refine WK.blockCond ?_ | refine WK.blockReg ?_ | (refine WK.condT ?_ ?_; (focus (simp only [go_sem, seval, reduceCtorEq, List.length_map, e, encT_eq]; done))) | (refine WK.condF ?_ ?_; (focus (simp only [go_sem, seval, reduceCtorEq, List.length_map, e, encT_eq]; done))) | refine WK.seq ?_ | ((first | refine WK.reg ?_ | refine WK.skip ?_ | refine WK.ret ?_ | refine WK.exit ?_); simp only [go_sem, seval, reduceCtorEq, List.length_map, e, encT_eq]) | ((with_reducible refine And.intro ?_ ?_); omega) | omega)
      refine callK_pureL (name_ok (gl := gl) l[i] (h _ (List.getElem_mem hi))) rfl ?_ ?_ ?_ <;> simp only [go_sem, seval, reduceCtorEq, List.length_map, e, encT_eq]
      have ht : (l.take i).map encT = (l.map encT).take i := List.map_take
      cases hn : nameS l[i] with
      | false =>
        try simp only [go_sem, seval, reduceCtorEq, List.length_map, e, encT_eq, hn]
        repeat (first | refine WK.blockSeq ?_ | refine WK.blockCond ?_ | refine WK.blockReg ?_ | (refine WK.condT ?_ ?_; (focus (simp only [go_sem, seval, reduceCtorEq, List.length_map, e, encT_eq, hn]; done))) | (refine WK.condF ?_ ?_; (focus (simp only [go_sem, seval, reduceCtorEq, List.length_map, e, encT_eq, hn]; done))) | refine WK.seq ?_ | ((first | refine WK.reg ?_ | refine WK.skip ?_ | refine WK.ret ?_ | refine WK.exit ?_); simp only [go_sem, seval, reduceCtorEq, List.length_map, e, encT_eq, hn]) | ((with_reducible refine And.intro ?_ ?_); omega) | omega)
        have hb' : badN l i = true := by unfold badN; rw [e3, hn]; rfl
        rw [namedS, if_neg hn6, if_pos (List.any_eq_true.2 ⟨i, List.mem_range.2 hi, hb'⟩)]
      | true =>
        try simp only [go_sem, seval, reduceCtorEq, List.length_map, e, encT_eq, hn]
        repeat (first | refine WK.blockSeq ?_ | refine WK.blockCond ?_ | refine WK.blockReg ?_ | (refine WK.condT ?_ ?_; (focus (simp only [go_sem, seval, reduceCtorEq, List.length_map, e, encT_eq, hn]; done))) | (refine WK.condF ?_ ?_; (focus (simp only [go_sem, seval, reduceCtorEq, List.length_map, e, encT_eq, hn]; done))) | refine WK.seq ?_ | ((first | refine WK.reg ?_ | refine WK.skip ?_ | refine WK.ret ?_ | refine WK.exit ?_); simp only [go_sem, seval, reduceCtorEq, List.length_map, e, encT_eq, hn]) | ((with_reducible refine And.intro ?_ ?_); omega) | omega)
        refine ⟨⟨by omega, by omega, by omega, fun x hx => by (obtain ⟨y, _, rfl⟩ := List.mem_map.1 hx; rfl)⟩, ?_⟩
        simp only [← ht, List.drop_zero]
        refine callK_pureL (containsT_ok (gl := gl) (l.take i) l[i] (by rw [List.length_take]; omega)) rfl ?_ ?_ ?_ <;> simp only [go_sem, seval, reduceCtorEq, List.length_map, e, encT_eq]
        have hbn : badN l i = (l.take i).any fun t => l[i] == t := by unfold badN; rw [e3, hn]; rfl
        cases hc : (l.take i).any fun t => l[i] == t with
        | true =>
          try simp only [go_sem, seval, reduceCtorEq, List.length_map, e, encT_eq]
          repeat (first | refine WK.blockSeq ?_ | refine WK.blockCond ?_ | refine WK.blockReg ?_ | (refine WK.condT ?_ ?_; (focus (simp only [go_sem, seval, reduceCtorEq, List.length_map, e, encT_eq]; done))) | (refine WK.condF ?_ ?_; (focus (simp only [go_sem, seval, reduceCtorEq, List.length_map, e, encT_eq]; done))) | refine WK.seq ?_ | ((first | refine WK.reg ?_ | refine WK.skip ?_ | refine WK.ret ?_ | refine WK.exit ?_); simp only [go_sem, seval, reduceCtorEq, List.length_map, e, encT_eq]) | ((with_reducible refine And.intro ?_ ?_); omega) | omega)
          rw [namedS, if_neg hn6, if_pos (List.any_eq_true.2 ⟨i, List.mem_range.2 hi, hbn.trans hc⟩)]
        | false =>
          try simp only [go_sem, seval, reduceCtorEq, List.length_map, e, encT_eq]
          repeat (first | refine WK.blockSeq ?_ | refine WK.blockCond ?_ | refine WK.blockReg ?_ | (refine WK.condT ?_ ?_; (focus (simp only [go_sem, seval, reduceCtorEq, List.length_map, e, encT_eq]; done))) | (refine WK.condF ?_ ?_; (focus (simp only [go_sem, seval, reduceCtorEq, List.length_map, e, encT_eq]; done))) | refine WK.seq ?_ | ((first | refine WK.reg ?_ | refine WK.skip ?_ | refine WK.ret ?_ | refine WK.exit ?_); simp only [go_sem, seval, reduceCtorEq, List.length_map, e, encT_eq]) | ((with_reducible refine And.intro ?_ ?_); omega) | omega)
          intro j hj
          by_cases hj2 : j = i
          · subst hj2; exact hbn.trans hc
          · exact hI j (by omega)
    · intro hI
      simp only [go_sem, seval, reduceCtorEq, List.length_map]
      try simp only [go_sem, seval, reduceCtorEq, List.length_map]
      repeat (first | refine WK.blockSeq ?_ | refine WK.blockCond ?_ | refine WK.blockReg ?_ | (refine WK.condT ?_ ?_; (focus (simp only [go_sem, seval, reduceCtorEq, List.length_map]; done))) | (refine WK.condF ?_ ?_; (focus (simp only [go_sem, seval, reduceCtorEq, List.length_map]; done))) | refine WK.seq ?_ | ((first | refine WK.reg ?_ | refine WK.skip ?_ | refine WK.ret ?_ | refine WK.exit ?_); simp only [go_sem, seval, reduceCtorEq, List.length_map]) | ((with_reducible refine And.intro ?_ ?_); omega) | omega)
      rw [namedS, if_neg hn6, if_neg (fun hx => by
        obtain ⟨j, hj, hj2⟩ := List.any_eq_true.1 hx
        rw [hI j (List.mem_range.1 hj)] at hj2; cases hj2)]
end
end Go.Sx
