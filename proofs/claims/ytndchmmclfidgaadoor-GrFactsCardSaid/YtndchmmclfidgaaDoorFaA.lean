import Derived.Test.YtndchmmclfidgaaDoorGxE
import Derived.Test.YtndchmmclfidgaaDoorLgX
set_option maxRecDepth 100000
set_option linter.unusedSimpArgs false
set_option linter.unusedVariables false
set_option linter.unnecessarySimpa false
namespace Go.Sx
open Go Go.Lg Go.Proofs
theorem b143 {gl : GL} : Body (C gl).P 143 Tryd.f143 (codeOf Tryd.f143) := ⟨Tryd.func143, by kernel_rfl, by kernel_rfl⟩
theorem b144 {gl : GL} : Body (C gl).P 144 Tryd.f144 (codeOf Tryd.f144) := ⟨Tryd.func144, by kernel_rfl, by kernel_rfl⟩
theorem b189 {gl : GL} : Body (C gl).P 189 Tryd.f189 (codeOf Tryd.f189) := ⟨Tryd.func189, by kernel_rfl, by kernel_rfl⟩
theorem b82 {gl : GL} : Body (C gl).P 82 Tryd.f82 (codeOf Tryd.f82) := ⟨Tryd.func82, by kernel_rfl, by kernel_rfl⟩
theorem b83 {gl : GL} : Body (C gl).P 83 Tryd.f83 (codeOf Tryd.f83) := ⟨Tryd.func83, by kernel_rfl, by kernel_rfl⟩
theorem b84 {gl : GL} : Body (C gl).P 84 Tryd.f84 (codeOf Tryd.f84) := ⟨Tryd.func84, by kernel_rfl, by kernel_rfl⟩
theorem b85 {gl : GL} : Body (C gl).P 85 Tryd.f85 (codeOf Tryd.f85) := ⟨Tryd.func85, by kernel_rfl, by kernel_rfl⟩
theorem b86 {gl : GL} : Body (C gl).P 86 Tryd.f86 (codeOf Tryd.f86) := ⟨Tryd.func86, by kernel_rfl, by kernel_rfl⟩
theorem b32 {gl : GL} : Body (C gl).P 32 Tryd.f32 (codeOf Tryd.f32) := ⟨Tryd.func32, by kernel_rfl, by kernel_rfl⟩

/-! ## Formulas that are made -/
def conjF : List Fm → Fm
  | [] => .mk 0 0 []
  | f :: l => l.foldl (fun a g => .mk 4 0 [a, g]) f
def oftenL (l : List Fm) : List Fm := l.map fun f => .mk 10 0 [.mk 9 0 [f]]
def fmlC (c : Ct) : Fm := .mk 6 0 [c.ie, .mk 4 0 [c.is, .mk 4 0 [.mk 13 0 [c.ss, .mk 3 0 [c.se]], .mk 6 0 [.mk 4 0 [.mk 10 0 [c.se], conjF (oftenL c.je)], conjF (oftenL c.js)]]]]
theorem encF_mk (o v : Int) (l : List Fm) : encF (.mk o v l) = .agg [.int .i64 o, .int .i64 v, .list false (encFs l)] := rfl
mutual
def sameF : Fm → Fm → Bool
  | .mk o v l, .mk o' v' l' => (o == o') && (v == v') && sameL l l'
def sameL : List Fm → List Fm → Bool
  | [], [] => true
  | f :: l, g :: l' => sameF f g && sameL l l'
  | _, _ => false
end
mutual
theorem sameF_iff : ∀ f g : Fm, sameF f g = true ↔ f = g
  | .mk o v l, .mk o' v' l' => by
    simp only [sameF, Bool.and_eq_true, beq_iff_eq, sameL_iff l l', Fm.mk.injEq, and_assoc]
theorem sameL_iff : ∀ l l' : List Fm, sameL l l' = true ↔ l = l'
  | [], [] => by simp [sameL]
  | [], g :: l' => by simp [sameL]
  | f :: l, [] => by simp [sameL]
  | f :: l, g :: l' => by simp only [sameL, Bool.and_eq_true, sameF_iff f g, sameL_iff l l', List.cons.injEq]
end
theorem sameF_self (f : Fm) : sameF f f = true := (sameF_iff f f).2 rfl

theorem sameL_len {l l' : List Fm} (h : ((l.length : Int) == (l'.length : Int)) = false) : sameL l l' = false :=
  Bool.eq_false_iff.2 fun e => by
    rw [(sameL_iff l l').1 e] at h
    simp at h
theorem op_mk (o v : Int) (l : List Fm) : (Fm.mk o v l).op = o := (rfl)
theorem var_mk (o v : Int) (l : List Fm) : (Fm.mk o v l).var = v := (rfl)
theorem args_mk (o v : Int) (l : List Fm) : (Fm.mk o v l).args = l := (rfl)
theorem encFs_all (l : List Fm) : (encFs l).take l.length = encFs l := by rw [← encFs_len l, List.take_length]
theorem encFs_tk1 (l : List Fm) (i : Nat) (h : i < l.length) : encFs (l.take (i + 1)) = encFs (l.take i) ++ [.agg [.int .i64 l[i].op, .int .i64 l[i].var, .list false (encFs l[i].args)]] := by
  rw [← List.take_append_getElem h, ← encFs_app, encFs, encFs, encF_eq]
theorem cells3F : ∀ l : List Fm, ∀ x ∈ encFs l, (match x with | AV.agg cs => cs | v => [v]).length = 3
  | [], x, hx => by cases hx
  | f :: l, x, hx => by
    rcases List.mem_cons.1 hx with rfl | hx
    · rw [encF_eq]; rfl
    · exact cells3F l x hx
section
variable {gl : GL}
theorem gop_ok (fl : Bool) (o : Int) (l : List Fm) : PCall (C gl) 143 [.int .i64 o, .list fl (encFs l)] (encF (.mk o 0 l)) := by
  refine pcallX (callX_of b143 (by simp [Tryd.ntmps143]) ?_) (by simp only [AllCl, cl_int, cl_list, clE_encFs, and_true]) (by simp only [cl_encF])
  refine W.of ?_
  rw [Tryd.ntmps143]
  simp only [toK, codeOf, Tryd.f143, go_sem, seval, reduceCtorEq]
  try simp only [go_sem, seval, reduceCtorEq]
  repeat (first | refine WK.blockSeq ?_ | refine WK.blockCond ?_ | refine WK.blockReg ?_ | (refine WK.condT ?_ ?_; (focus (simp only [go_sem, seval, reduceCtorEq]; done))) | (refine WK.condF ?_ ?_; (focus (simp only [go_sem, seval, reduceCtorEq]; done))) | refine WK.seq ?_ | ((first | refine WK.reg ?_ | refine WK.skip ?_ | refine WK.ret ?_ | refine WK.exit ?_); simp only [go_sem, seval, reduceCtorEq]) | ((with_reducible refine And.intro ?_ ?_); omega) | omega)
  refine ⟨AV.le_agg ⟨.refl _, .refl _, AV.le_list' _, trivial⟩, ?_⟩
  refine Cut.by' (by first | exact Nat.le_refl _ | (simp only [Sto.get_add, Sto.get_set, Sto.get_del, Sto.get_none, Sto.next_add, Sto.next_set, Sto.next_del, Sto.next_none]; omega)) (by first | exact Nat.le_refl _ | (simp only [Sto.get_add, Sto.get_set, Sto.get_del, Sto.get_none, Sto.next_add, Sto.next_set, Sto.next_del, Sto.next_none]; omega)) (fun i hi => ?_) (fun i o hi ho => ?_)
  · (try simp only [Sto.get_add, Sto.get_set, Sto.get_del, Sto.get_none, Sto.next_add, Sto.next_set, Sto.next_del, Sto.next_none] at hi ⊢); ((repeat' split) <;> first | exact .inl rfl | exact .inr rfl | omega | (simp_all; done))
  · (try simp only [Sto.get_add, Sto.get_set, Sto.get_del, Sto.get_none, Sto.next_add, Sto.next_set, Sto.next_del, Sto.next_none] at hi ho ⊢); ((repeat' split at ho) <;> (repeat' split) <;> first | (exact ⟨ho, .inl ho⟩) | (cases ho; done) | omega | (cases ho; refine ⟨rfl, .inl rfl⟩) | (cases ho; refine ⟨rfl, .inr ?_⟩; simp only [go_sem, seval, reduceCtorEq]; first | done | omega | (refine ⟨?_, ?_⟩ <;> omega)) | (simp_all; done))
theorem rof_ok (fl : Bool) (o : Int) (l : List Fm) : PCall (C gl) 84 [.int .i64 o, .list fl (encFs l)] (encF (.mk o 0 l)) := by
  refine pcallX (callX_of b84 (by simp [Tryd.ntmps84]) ?_) (by simp only [AllCl, cl_int, cl_list, clE_encFs, and_true]) (by simp only [cl_encF])
  refine W.of ?_
  rw [Tryd.ntmps84]
  simp only [toK, codeOf, Tryd.f84, go_sem, seval, reduceCtorEq]
  try simp only [go_sem, seval, reduceCtorEq]
  repeat (first | refine WK.blockSeq ?_ | refine WK.blockCond ?_ | refine WK.blockReg ?_ | (refine WK.condT ?_ ?_; (focus (simp only [go_sem, seval, reduceCtorEq]; done))) | (refine WK.condF ?_ ?_; (focus (simp only [go_sem, seval, reduceCtorEq]; done))) | refine WK.seq ?_ | ((first | refine WK.reg ?_ | refine WK.skip ?_ | refine WK.ret ?_ | refine WK.exit ?_); simp only [go_sem, seval, reduceCtorEq]) | ((with_reducible refine And.intro ?_ ?_); omega) | omega)
  refine ⟨AV.le_agg ⟨.refl _, .refl _, AV.le_list' _, trivial⟩, ?_⟩
  refine Cut.by' (by first | exact Nat.le_refl _ | (simp only [Sto.get_add, Sto.get_set, Sto.get_del, Sto.get_none, Sto.next_add, Sto.next_set, Sto.next_del, Sto.next_none]; omega)) (by first | exact Nat.le_refl _ | (simp only [Sto.get_add, Sto.get_set, Sto.get_del, Sto.get_none, Sto.next_add, Sto.next_set, Sto.next_del, Sto.next_none]; omega)) (fun i hi => ?_) (fun i o hi ho => ?_)
  · (try simp only [Sto.get_add, Sto.get_set, Sto.get_del, Sto.get_none, Sto.next_add, Sto.next_set, Sto.next_del, Sto.next_none] at hi ⊢); ((repeat' split) <;> first | exact .inl rfl | exact .inr rfl | omega | (simp_all; done))
  · (try simp only [Sto.get_add, Sto.get_set, Sto.get_del, Sto.get_none, Sto.next_add, Sto.next_set, Sto.next_del, Sto.next_none] at hi ho ⊢); ((repeat' split at ho) <;> (repeat' split) <;> first | (exact ⟨ho, .inl ho⟩) | (cases ho; done) | omega | (cases ho; refine ⟨rfl, .inl rfl⟩) | (cases ho; refine ⟨rfl, .inr ?_⟩; simp only [go_sem, seval, reduceCtorEq]; first | done | omega | (refine ⟨?_, ?_⟩ <;> omega)) | (simp_all; done))
theorem encFs_take (l : List Fm) (g : Fm → Fm) (i : Nat) (h : i < l.length) : encFs ((l.take (i + 1)).map g) = encFs ((l.take i).map g) ++ [encF (g l[i])] := by
  rw [takeM h, ← encFs_app]; rfl
theorem again_ok (l : List Fm) (hl : l.length < 1000000) : PCall (C gl) 86 [.list false (encFs l)] (.list false (encFs (oftenL l))) := by
  refine pcallX (callX_of b86 (by simp [Tryd.ntmps86]) ?_) (by simp only [AllCl, cl_list, clE_encFs, and_true]) (by simp only [cl_list, clE_encFs])
  refine W.of ?_
  rw [Tryd.ntmps86]
  simp only [toK, codeOf, Tryd.f86, go_sem, seval, reduceCtorEq]
  try simp only [go_sem, seval, reduceCtorEq, encFs_len]
  repeat (first | refine WK.blockSeq ?_ | refine WK.blockCond ?_ | refine WK.blockReg ?_ | (refine WK.condT ?_ ?_; (focus (simp only [go_sem, seval, reduceCtorEq, encFs_len]; done))) | (refine WK.condF ?_ ?_; (focus (simp only [go_sem, seval, reduceCtorEq, encFs_len]; done))) | refine WK.seq ?_ | ((first | refine WK.reg ?_ | refine WK.skip ?_ | refine WK.ret ?_ | refine WK.exit ?_); simp only [go_sem, seval, reduceCtorEq, encFs_len]) | ((with_reducible refine And.intro ?_ ?_); omega) | omega)
  refine WK.own0 3 3 (by decide) (by simp only [go_sem, seval, reduceCtorEq]) ?_
  refine WK.rangeX (l.length) [6] [3] (fun i => [.own 0 (encFs ((l.take i).map fun f => .mk 10 0 [.mk 9 0 [f]]))]) (fun i => Sto.none.add (.tok 3 i)) (by omega) (by decide) (by simp only [go_sem, seval, reduceCtorEq, encFs_len, encFs]) (by simp only [go_sem, seval, reduceCtorEq, encFs_len, encFs]) (by simp only [go_sem, seval, reduceCtorEq, encFs_len, encFs, List.take_zero]) (by first | rfl | (simp only [go_sem, seval, reduceCtorEq, encFs_len, encFs]; done) | (refine Sto.ext' (by simp only [go_sem, seval, reduceCtorEq, encFs_len, encFs]) (fun i => ?_); simp only [go_sem, seval, reduceCtorEq, encFs_len, encFs]; repeat' split; all_goals (first | rfl | omega | simp_all))) ?_ ?_
  · intro i hi
    simp only [go_sem, seval, reduceCtorEq, encFs_len]
    try simp only [go_sem, seval, reduceCtorEq, encFs_len, encFs_get, hi, encF_eq]
    repeat (first | refine WK.blockSeq ?_ | refine WK.blockCond ?_ | refine WK.blockReg ?_ | (refine WK.condT ?_ ?_; (focus (simp only [go_sem, seval, reduceCtorEq, encFs_len, encFs_get, hi, encF_eq]; done))) | (refine WK.condF ?_ ?_; (focus (simp only [go_sem, seval, reduceCtorEq, encFs_len, encFs_get, hi, encF_eq]; done))) | refine WK.seq ?_ | ((first | refine WK.reg ?_ | refine WK.skip ?_ | refine WK.ret ?_ | refine WK.exit ?_); simp only [go_sem, seval, reduceCtorEq, encFs_len, encFs_get, hi, encF_eq]) | ((with_reducible refine And.intro ?_ ?_); omega) | omega)
    refine callK_pureL (rof_ok (gl := gl) true 9 [l[i]]) rfl ?_ ?_ ?_ <;> simp only [go_sem, seval, reduceCtorEq, encFs_len, encF_eq, encFs]
    try simp only [go_sem, seval, reduceCtorEq, encFs_len]
    repeat (first | refine WK.blockSeq ?_ | refine WK.blockCond ?_ | refine WK.blockReg ?_ | (refine WK.condT ?_ ?_; (focus (simp only [go_sem, seval, reduceCtorEq, encFs_len]; done))) | (refine WK.condF ?_ ?_; (focus (simp only [go_sem, seval, reduceCtorEq, encFs_len]; done))) | refine WK.seq ?_ | ((first | refine WK.reg ?_ | refine WK.skip ?_ | refine WK.ret ?_ | refine WK.exit ?_); simp only [go_sem, seval, reduceCtorEq, encFs_len]) | ((with_reducible refine And.intro ?_ ?_); omega) | omega)
    refine callK_pureL (rof_ok (gl := gl) true 10 [.mk 9 0 [l[i]]]) rfl ?_ ?_ ?_ <;> simp only [go_sem, seval, reduceCtorEq, encFs_len, encF_eq, encFs]
    try simp only [go_sem, seval, reduceCtorEq, encFs_len]
    repeat (first | refine WK.blockSeq ?_ | refine WK.blockCond ?_ | refine WK.blockReg ?_ | (refine WK.condT ?_ ?_; (focus (simp only [go_sem, seval, reduceCtorEq, encFs_len]; done))) | (refine WK.condF ?_ ?_; (focus (simp only [go_sem, seval, reduceCtorEq, encFs_len]; done))) | refine WK.seq ?_ | ((first | refine WK.reg ?_ | refine WK.skip ?_ | refine WK.ret ?_ | refine WK.exit ?_); simp only [go_sem, seval, reduceCtorEq, encFs_len]) | ((with_reducible refine And.intro ?_ ?_); omega) | omega)
    refine appK_own (f := _) (by simp only [go_sem, seval, reduceCtorEq, encFs_len, encFs_len]; rfl) (by simp only [go_sem, seval, reduceCtorEq, encFs_len, encFs_len]; rfl) (by simp only [go_sem, seval, reduceCtorEq, encFs_len, encFs_len]; rfl) (by simp only [go_sem, seval, reduceCtorEq, encFs_len, encFs_len]) (by simp only [go_sem, seval, reduceCtorEq, encFs_len, encFs_len, List.length_map, List.length_take, List.length_range, List.length_append, List.length_cons, List.length_nil]; first | done | omega) ?_ (by simp only [go_sem, seval, reduceCtorEq, encFs_len, encFs_len]; rfl) (by simp only [go_sem, seval, reduceCtorEq, encFs_len, encFs_len]) ?_ (by kernel_rfl) (by simp only [go_sem, seval, reduceCtorEq, encFs_len, encFs_len, List.length_map, List.length_take, List.length_range, List.length_append, List.length_cons, List.length_nil]; omega) (by simp only [go_sem, seval, reduceCtorEq, encFs_len, encFs_len, List.length_map, List.length_take, List.length_range, List.length_append, List.length_cons, List.length_nil]; omega) ?_
    all_goals (try simp only [go_sem, seval, reduceCtorEq, encFs_len, encFs_len])
    all_goals (try (refine okes_map fun _ => ?_; simp only [go_sem, seval, reduceCtorEq, encFs_len, encFs_len]; done))
    try simp only [go_sem, seval, reduceCtorEq, encFs_len]
    repeat (first | refine WK.blockSeq ?_ | refine WK.blockCond ?_ | refine WK.blockReg ?_ | (refine WK.condT ?_ ?_; (focus (simp only [go_sem, seval, reduceCtorEq, encFs_len]; done))) | (refine WK.condF ?_ ?_; (focus (simp only [go_sem, seval, reduceCtorEq, encFs_len]; done))) | refine WK.seq ?_ | ((first | refine WK.reg ?_ | refine WK.skip ?_ | refine WK.ret ?_ | refine WK.exit ?_); simp only [go_sem, seval, reduceCtorEq, encFs_len]) | ((with_reducible refine And.intro ?_ ?_); omega) | omega)
    refine ⟨?_, ?_⟩
    · rw [encFs_take l _ i hi]; exact .refl _
    refine Cut.by' (by first | exact Nat.le_refl _ | (simp only [Sto.get_add, Sto.get_set, Sto.get_del, Sto.get_none, Sto.next_add, Sto.next_set, Sto.next_del, Sto.next_none]; omega)) (by first | exact Nat.le_refl _ | (simp only [Sto.get_add, Sto.get_set, Sto.get_del, Sto.get_none, Sto.next_add, Sto.next_set, Sto.next_del, Sto.next_none]; omega)) (fun i hi => ?_) (fun i o hi ho => ?_)
    · (try simp only [Sto.get_add, Sto.get_set, Sto.get_del, Sto.get_none, Sto.next_add, Sto.next_set, Sto.next_del, Sto.next_none] at hi ⊢); ((repeat' split) <;> first | exact .inl rfl | exact .inr rfl | omega | (simp_all; done))
    · (try simp only [Sto.get_add, Sto.get_set, Sto.get_del, Sto.get_none, Sto.next_add, Sto.next_set, Sto.next_del, Sto.next_none] at hi ho ⊢); ((repeat' split at ho) <;> (repeat' split) <;> first | (exact ⟨ho, .inl ho⟩) | (cases ho; done) | omega | (cases ho; refine ⟨rfl, .inl rfl⟩) | (cases ho; refine ⟨rfl, .inr ?_⟩; simp only [go_sem, seval, reduceCtorEq, encFs_len, encF_eq]; first | done | omega | (refine ⟨?_, ?_⟩ <;> omega)) | (simp_all; done))
  · simp only [go_sem, seval, reduceCtorEq, encFs_len]
    try simp only [go_sem, seval, reduceCtorEq, encFs_len]
    repeat (first | refine WK.blockSeq ?_ | refine WK.blockCond ?_ | refine WK.blockReg ?_ | (refine WK.condT ?_ ?_; (focus (simp only [go_sem, seval, reduceCtorEq, encFs_len]; done))) | (refine WK.condF ?_ ?_; (focus (simp only [go_sem, seval, reduceCtorEq, encFs_len]; done))) | refine WK.seq ?_ | ((first | refine WK.reg ?_ | refine WK.skip ?_ | refine WK.ret ?_ | refine WK.exit ?_); simp only [go_sem, seval, reduceCtorEq, encFs_len]) | ((with_reducible refine And.intro ?_ ?_); omega) | omega)
    rw [List.take_length]
    refine ⟨le_own _ _, ?_⟩
    refine Cut.by' (by first | exact Nat.le_refl _ | (simp only [Sto.get_add, Sto.get_set, Sto.get_del, Sto.get_none, Sto.next_add, Sto.next_set, Sto.next_del, Sto.next_none]; omega)) (by first | exact Nat.le_refl _ | (simp only [Sto.get_add, Sto.get_set, Sto.get_del, Sto.get_none, Sto.next_add, Sto.next_set, Sto.next_del, Sto.next_none]; omega)) (fun i hi => ?_) (fun i o hi ho => ?_)
    · (try simp only [Sto.get_add, Sto.get_set, Sto.get_del, Sto.get_none, Sto.next_add, Sto.next_set, Sto.next_del, Sto.next_none] at hi ⊢); ((repeat' split) <;> first | exact .inl rfl | exact .inr rfl | omega | (simp_all; done))
    · (try simp only [Sto.get_add, Sto.get_set, Sto.get_del, Sto.get_none, Sto.next_add, Sto.next_set, Sto.next_del, Sto.next_none] at hi ho ⊢); ((repeat' split at ho) <;> (repeat' split) <;> first | (exact ⟨ho, .inl ho⟩) | (cases ho; done) | omega | (cases ho; refine ⟨rfl, .inl rfl⟩) | (cases ho; refine ⟨rfl, .inr ?_⟩; simp only [go_sem, seval, reduceCtorEq, encFs_len]; first | done | omega | (refine ⟨?_, ?_⟩ <;> omega)) | (simp_all; done))
theorem foldl_conj (l : List Fm) (f : Fm) (i : Nat) (h : i < l.length) : (l.take (i + 1)).foldl (fun a g => Fm.mk 4 0 [a, g]) f = .mk 4 0 [(l.take i).foldl (fun a g => Fm.mk 4 0 [a, g]) f, l[i]] := foldl_take _ f l i h
theorem conj_ok (l : List Fm) (hl : l.length < 1000000) : PCall (C gl) 189 [.list false (encFs l)] (encF (conjF l)) := by
  refine pcallX (callX_of b189 (by simp [Tryd.ntmps189]) ?_) (by simp only [AllCl, cl_list, clE_encFs, and_true]) (by simp only [cl_encF])
  refine W.of ?_
  rw [Tryd.ntmps189]
  simp only [toK, codeOf, Tryd.f189, go_sem, seval, reduceCtorEq]
  cases l with
  | nil =>
    try simp only [go_sem, seval, reduceCtorEq, encFs_len, encFs]
    repeat (first | refine WK.blockSeq ?_ | refine WK.blockCond ?_ | refine WK.blockReg ?_ | (refine WK.condT ?_ ?_; (focus (simp only [go_sem, seval, reduceCtorEq, encFs_len, encFs]; done))) | (refine WK.condF ?_ ?_; (focus (simp only [go_sem, seval, reduceCtorEq, encFs_len, encFs]; done))) | refine WK.seq ?_ | ((first | refine WK.reg ?_ | refine WK.skip ?_ | refine WK.ret ?_ | refine WK.exit ?_); simp only [go_sem, seval, reduceCtorEq, encFs_len, encFs]) | ((with_reducible refine And.intro ?_ ?_); omega) | omega)
    refine ⟨AV.le_agg ⟨.refl _, .refl _, AV.le_list' _, trivial⟩, ?_⟩
    refine Cut.by' (by first | exact Nat.le_refl _ | (simp only [Sto.get_add, Sto.get_set, Sto.get_del, Sto.get_none, Sto.next_add, Sto.next_set, Sto.next_del, Sto.next_none]; omega)) (by first | exact Nat.le_refl _ | (simp only [Sto.get_add, Sto.get_set, Sto.get_del, Sto.get_none, Sto.next_add, Sto.next_set, Sto.next_del, Sto.next_none]; omega)) (fun i hi => ?_) (fun i o hi ho => ?_)
    · (try simp only [Sto.get_add, Sto.get_set, Sto.get_del, Sto.get_none, Sto.next_add, Sto.next_set, Sto.next_del, Sto.next_none] at hi ⊢); ((repeat' split) <;> first | exact .inl rfl | exact .inr rfl | omega | (simp_all; done))
    · (try simp only [Sto.get_add, Sto.get_set, Sto.get_del, Sto.get_none, Sto.next_add, Sto.next_set, Sto.next_del, Sto.next_none] at hi ho ⊢); ((repeat' split at ho) <;> (repeat' split) <;> first | (exact ⟨ho, .inl ho⟩) | (cases ho; done) | omega | (cases ho; refine ⟨rfl, .inl rfl⟩) | (cases ho; refine ⟨rfl, .inr ?_⟩; simp only [go_sem, seval, reduceCtorEq, encFs_len]; first | done | omega | (refine ⟨?_, ?_⟩ <;> omega)) | (simp_all; done))
  | cons f l =>
    have hl : l.length < 1000000 := by simp only [List.length_cons] at hl; omega
    try simp only [go_sem, seval, reduceCtorEq, encFs_len, encFs, encF_eq]
    repeat (first | refine WK.blockSeq ?_ | refine WK.blockCond ?_ | refine WK.blockReg ?_ | (refine WK.condT ?_ ?_; (focus (simp only [go_sem, seval, reduceCtorEq, encFs_len, encFs, encF_eq]; done))) | (refine WK.condF ?_ ?_; (focus (simp only [go_sem, seval, reduceCtorEq, encFs_len, encFs, encF_eq]; done))) | refine WK.seq ?_ | ((first | refine WK.reg ?_ | refine WK.skip ?_ | refine WK.ret ?_ | refine WK.exit ?_); simp only [go_sem, seval, reduceCtorEq, encFs_len, encFs, encF_eq]) | ((with_reducible refine And.intro ?_ ?_); omega) | omega)
    refine WK.cond _ (by simp only [go_sem, seval, reduceCtorEq, encFs_len]; rfl) (fun hz => ?_) (fun hz => ?_)
    · exfalso; simp at hz; omega
    try simp only [go_sem, seval, reduceCtorEq, encFs_len, encFs, encF_eq]
    repeat (first | refine WK.blockSeq ?_ | refine WK.blockCond ?_ | refine WK.blockReg ?_ | (refine WK.condT ?_ ?_; (focus (simp only [go_sem, seval, reduceCtorEq, encFs_len, encFs, encF_eq]; done))) | (refine WK.condF ?_ ?_; (focus (simp only [go_sem, seval, reduceCtorEq, encFs_len, encFs, encF_eq]; done))) | refine WK.seq ?_ | ((first | refine WK.reg ?_ | refine WK.skip ?_ | refine WK.ret ?_ | refine WK.exit ?_); simp only [go_sem, seval, reduceCtorEq, encFs_len, encFs, encF_eq]) | ((with_reducible refine And.intro ?_ ?_); omega) | omega)
    have hc3 := cells3F (f :: l)
    simp only [encFs, encF_eq] at hc3
    refine ⟨hc3, ?_⟩
    refine WK.rangeX (l.length) [2, 3, 14] [] (fun i => []) (fun i => (Sto.none.add (.box [.int .i64 0, .int .i64 0, .list true []])).add (.box [.int .i64 ((l.take i).foldl (fun a g => Fm.mk 4 0 [a, g]) f).op, .int .i64 ((l.take i).foldl (fun a g => Fm.mk 4 0 [a, g]) f).var, .list false (encFs ((l.take i).foldl (fun a g => Fm.mk 4 0 [a, g]) f).args)])) (by omega) (by decide) (by simp only [go_sem, seval, reduceCtorEq, encFs_len, encFs_all, encF_eq, List.foldl_nil]) (by simp only [go_sem, seval, reduceCtorEq, encFs_len, encFs_all, encF_eq, List.foldl_nil]) (by simp only [go_sem, seval, reduceCtorEq, encFs_len, encFs_all, encF_eq, List.foldl_nil, List.take_zero]) (by first | rfl | (simp only [go_sem, seval, reduceCtorEq, encFs_len, encFs_all, encF_eq, List.foldl_nil]; done) | (refine Sto.ext' (by simp only [go_sem, seval, reduceCtorEq, encFs_len, encFs_all, encF_eq, List.foldl_nil]) (fun i => ?_); simp only [go_sem, seval, reduceCtorEq, encFs_len, encFs_all, encF_eq, List.foldl_nil]; repeat' split; all_goals (first | rfl | omega | simp_all))) ?_ ?_
    · intro i hi
      simp only [go_sem, seval, reduceCtorEq, encFs_len, encFs_all]
      try simp only [go_sem, seval, reduceCtorEq, encFs_len, encFs_all, encFs_get, hi, encF_eq]
      repeat (first | refine WK.blockSeq ?_ | refine WK.blockCond ?_ | refine WK.blockReg ?_ | (refine WK.condT ?_ ?_; (focus (simp only [go_sem, seval, reduceCtorEq, encFs_len, encFs_all, encFs_get, hi, encF_eq]; done))) | (refine WK.condF ?_ ?_; (focus (simp only [go_sem, seval, reduceCtorEq, encFs_len, encFs_all, encFs_get, hi, encF_eq]; done))) | refine WK.seq ?_ | ((first | refine WK.reg ?_ | refine WK.skip ?_ | refine WK.ret ?_ | refine WK.exit ?_); simp only [go_sem, seval, reduceCtorEq, encFs_len, encFs_all, encFs_get, hi, encF_eq]) | ((with_reducible refine And.intro ?_ ?_); omega) | omega)
      rw [foldl_conj l f i hi]
      generalize (l.take i).foldl (fun a g => Fm.mk 4 0 [a, g]) f = acc
      refine Cut.less 1 [.int .i64 4, .int .i64 0, .list false (encFs [acc, l[i]])] (by simp only [go_sem, seval, reduceCtorEq, encFs_len, encFs_all]; rfl) ?_ ?_
      · rw [encFs, encFs, encFs, encF_eq acc, encF_eq l[i]]; exact ⟨.refl _, .refl _, AV.le_list' _, trivial⟩
      simp only [go_sem, seval, reduceCtorEq, encFs_len, encFs_all, op_mk, var_mk, args_mk]
      refine Cut.by' (by first | exact Nat.le_refl _ | (simp only [Sto.get_add, Sto.get_set, Sto.get_del, Sto.get_none, Sto.next_add, Sto.next_set, Sto.next_del, Sto.next_none]; omega)) (by first | exact Nat.le_refl _ | (simp only [Sto.get_add, Sto.get_set, Sto.get_del, Sto.get_none, Sto.next_add, Sto.next_set, Sto.next_del, Sto.next_none]; omega)) (fun i hi => ?_) (fun i o hi ho => ?_)
      · (try simp only [Sto.get_add, Sto.get_set, Sto.get_del, Sto.get_none, Sto.next_add, Sto.next_set, Sto.next_del, Sto.next_none] at hi ⊢); ((repeat' split) <;> first | exact .inl rfl | exact .inr rfl | omega | (simp_all; done))
      · (try simp only [Sto.get_add, Sto.get_set, Sto.get_del, Sto.get_none, Sto.next_add, Sto.next_set, Sto.next_del, Sto.next_none] at hi ho ⊢); ((repeat' split at ho) <;> (repeat' split) <;> first | (exact ⟨ho, .inl ho⟩) | (cases ho; done) | omega | (cases ho; refine ⟨rfl, .inl rfl⟩) | (cases ho; refine ⟨rfl, .inr ?_⟩; simp only [go_sem, seval, reduceCtorEq, encFs_len, encFs_all, encF_eq]; first | done | omega | (refine ⟨?_, ?_⟩ <;> omega)) | (simp_all; done))
    · simp only [go_sem, seval, reduceCtorEq, encFs_len, encFs_all, List.take_length]
      try simp only [go_sem, seval, reduceCtorEq, encFs_len, encFs_all]
      repeat (first | refine WK.blockSeq ?_ | refine WK.blockCond ?_ | refine WK.blockReg ?_ | (refine WK.condT ?_ ?_; (focus (simp only [go_sem, seval, reduceCtorEq, encFs_len, encFs_all]; done))) | (refine WK.condF ?_ ?_; (focus (simp only [go_sem, seval, reduceCtorEq, encFs_len, encFs_all]; done))) | refine WK.seq ?_ | ((first | refine WK.reg ?_ | refine WK.skip ?_ | refine WK.ret ?_ | refine WK.exit ?_); simp only [go_sem, seval, reduceCtorEq, encFs_len, encFs_all]) | ((with_reducible refine And.intro ?_ ?_); omega) | omega)
      refine ⟨AV.le.refl _, ?_⟩
      refine Cut.by' (by first | exact Nat.le_refl _ | (simp only [Sto.get_add, Sto.get_set, Sto.get_del, Sto.get_none, Sto.next_add, Sto.next_set, Sto.next_del, Sto.next_none]; omega)) (by first | exact Nat.le_refl _ | (simp only [Sto.get_add, Sto.get_set, Sto.get_del, Sto.get_none, Sto.next_add, Sto.next_set, Sto.next_del, Sto.next_none]; omega)) (fun i hi => ?_) (fun i o hi ho => ?_)
      · (try simp only [Sto.get_add, Sto.get_set, Sto.get_del, Sto.get_none, Sto.next_add, Sto.next_set, Sto.next_del, Sto.next_none] at hi ⊢); ((repeat' split) <;> first | exact .inl rfl | exact .inr rfl | omega | (simp_all; done))
      · (try simp only [Sto.get_add, Sto.get_set, Sto.get_del, Sto.get_none, Sto.next_add, Sto.next_set, Sto.next_del, Sto.next_none] at hi ho ⊢); ((repeat' split at ho) <;> (repeat' split) <;> first | (exact ⟨ho, .inl ho⟩) | (cases ho; done) | omega | (cases ho; refine ⟨rfl, .inl rfl⟩) | (cases ho; refine ⟨rfl, .inr ?_⟩; simp only [go_sem, seval, reduceCtorEq, encFs_len, encFs_all]; first | done | omega | (refine ⟨?_, ?_⟩ <;> omega)) | (simp_all; done))
theorem rall_ok (l : List Fm) (hl : l.length < 1000000) : PCall (C gl) 85 [.list false (encFs l)] (encF (conjF l)) := by
  refine pcallX (callX_of b85 (by simp [Tryd.ntmps85]) ?_) (by simp only [AllCl, cl_list, clE_encFs, and_true]) (by simp only [cl_encF])
  refine W.of ?_
  rw [Tryd.ntmps85]
  simp only [toK, codeOf, Tryd.f85, go_sem, seval, reduceCtorEq]
  cases l with
  | nil =>
    try simp only [go_sem, seval, reduceCtorEq, encFs_len, encFs]
    repeat (first | refine WK.blockSeq ?_ | refine WK.blockCond ?_ | refine WK.blockReg ?_ | (refine WK.condT ?_ ?_; (focus (simp only [go_sem, seval, reduceCtorEq, encFs_len, encFs]; done))) | (refine WK.condF ?_ ?_; (focus (simp only [go_sem, seval, reduceCtorEq, encFs_len, encFs]; done))) | refine WK.seq ?_ | ((first | refine WK.reg ?_ | refine WK.skip ?_ | refine WK.ret ?_ | refine WK.exit ?_); simp only [go_sem, seval, reduceCtorEq, encFs_len, encFs]) | ((with_reducible refine And.intro ?_ ?_); omega) | omega)
    refine ⟨AV.le_agg ⟨.refl _, .refl _, AV.le_list' _, trivial⟩, ?_⟩
    refine Cut.by' (by first | exact Nat.le_refl _ | (simp only [Sto.get_add, Sto.get_set, Sto.get_del, Sto.get_none, Sto.next_add, Sto.next_set, Sto.next_del, Sto.next_none]; omega)) (by first | exact Nat.le_refl _ | (simp only [Sto.get_add, Sto.get_set, Sto.get_del, Sto.get_none, Sto.next_add, Sto.next_set, Sto.next_del, Sto.next_none]; omega)) (fun i hi => ?_) (fun i o hi ho => ?_)
    · (try simp only [Sto.get_add, Sto.get_set, Sto.get_del, Sto.get_none, Sto.next_add, Sto.next_set, Sto.next_del, Sto.next_none] at hi ⊢); ((repeat' split) <;> first | exact .inl rfl | exact .inr rfl | omega | (simp_all; done))
    · (try simp only [Sto.get_add, Sto.get_set, Sto.get_del, Sto.get_none, Sto.next_add, Sto.next_set, Sto.next_del, Sto.next_none] at hi ho ⊢); ((repeat' split at ho) <;> (repeat' split) <;> first | (exact ⟨ho, .inl ho⟩) | (cases ho; done) | omega | (cases ho; refine ⟨rfl, .inl rfl⟩) | (cases ho; refine ⟨rfl, .inr ?_⟩; simp only [go_sem, seval, reduceCtorEq, encFs_len]; first | done | omega | (refine ⟨?_, ?_⟩ <;> omega)) | (simp_all; done))
  | cons f l =>
    have hl : l.length < 1000000 := by simp only [List.length_cons] at hl; omega
    try simp only [go_sem, seval, reduceCtorEq, encFs_len, encFs, encF_eq]
    repeat (first | refine WK.blockSeq ?_ | refine WK.blockCond ?_ | refine WK.blockReg ?_ | (refine WK.condT ?_ ?_; (focus (simp only [go_sem, seval, reduceCtorEq, encFs_len, encFs, encF_eq]; done))) | (refine WK.condF ?_ ?_; (focus (simp only [go_sem, seval, reduceCtorEq, encFs_len, encFs, encF_eq]; done))) | refine WK.seq ?_ | ((first | refine WK.reg ?_ | refine WK.skip ?_ | refine WK.ret ?_ | refine WK.exit ?_); simp only [go_sem, seval, reduceCtorEq, encFs_len, encFs, encF_eq]) | ((with_reducible refine And.intro ?_ ?_); omega) | omega)
    refine WK.cond _ (by simp only [go_sem, seval, reduceCtorEq, encFs_len]; rfl) (fun hz => ?_) (fun hz => ?_)
    · exfalso; simp at hz; omega
    try simp only [go_sem, seval, reduceCtorEq, encFs_len, encFs, encF_eq]
    repeat (first | refine WK.blockSeq ?_ | refine WK.blockCond ?_ | refine WK.blockReg ?_ | (refine WK.condT ?_ ?_; (focus (simp only [go_sem, seval, reduceCtorEq, encFs_len, encFs, encF_eq]; done))) | (refine WK.condF ?_ ?_; (focus (simp only [go_sem, seval, reduceCtorEq, encFs_len, encFs, encF_eq]; done))) | refine WK.seq ?_ | ((first | refine WK.reg ?_ | refine WK.skip ?_ | refine WK.ret ?_ | refine WK.exit ?_); simp only [go_sem, seval, reduceCtorEq, encFs_len, encFs, encF_eq]) | ((with_reducible refine And.intro ?_ ?_); omega) | omega)
    have hc3 := cells3F (f :: l)
    simp only [encFs, encF_eq] at hc3
    refine ⟨hc3, ?_⟩
    refine WK.rangeX (l.length) [2, 3, 14] [] (fun i => []) (fun i => (Sto.none.add (.box [.int .i64 0, .int .i64 0, .list true []])).add (.box [.int .i64 ((l.take i).foldl (fun a g => Fm.mk 4 0 [a, g]) f).op, .int .i64 ((l.take i).foldl (fun a g => Fm.mk 4 0 [a, g]) f).var, .list false (encFs ((l.take i).foldl (fun a g => Fm.mk 4 0 [a, g]) f).args)])) (by omega) (by decide) (by simp only [go_sem, seval, reduceCtorEq, encFs_len, encFs_all, encF_eq, List.foldl_nil]) (by simp only [go_sem, seval, reduceCtorEq, encFs_len, encFs_all, encF_eq, List.foldl_nil]) (by simp only [go_sem, seval, reduceCtorEq, encFs_len, encFs_all, encF_eq, List.foldl_nil, List.take_zero]) (by first | rfl | (simp only [go_sem, seval, reduceCtorEq, encFs_len, encFs_all, encF_eq, List.foldl_nil]; done) | (refine Sto.ext' (by simp only [go_sem, seval, reduceCtorEq, encFs_len, encFs_all, encF_eq, List.foldl_nil]) (fun i => ?_); simp only [go_sem, seval, reduceCtorEq, encFs_len, encFs_all, encF_eq, List.foldl_nil]; repeat' split; all_goals (first | rfl | omega | simp_all))) ?_ ?_
    · intro i hi
      simp only [go_sem, seval, reduceCtorEq, encFs_len, encFs_all]
      try simp only [go_sem, seval, reduceCtorEq, encFs_len, encFs_all, encFs_get, hi, encF_eq]
      repeat (first | refine WK.blockSeq ?_ | refine WK.blockCond ?_ | refine WK.blockReg ?_ | (refine WK.condT ?_ ?_; (focus (simp only [go_sem, seval, reduceCtorEq, encFs_len, encFs_all, encFs_get, hi, encF_eq]; done))) | (refine WK.condF ?_ ?_; (focus (simp only [go_sem, seval, reduceCtorEq, encFs_len, encFs_all, encFs_get, hi, encF_eq]; done))) | refine WK.seq ?_ | ((first | refine WK.reg ?_ | refine WK.skip ?_ | refine WK.ret ?_ | refine WK.exit ?_); simp only [go_sem, seval, reduceCtorEq, encFs_len, encFs_all, encFs_get, hi, encF_eq]) | ((with_reducible refine And.intro ?_ ?_); omega) | omega)
      refine callK_pureL (rof_ok (gl := gl) true 4 [(l.take i).foldl (fun a g => Fm.mk 4 0 [a, g]) f, l[i]]) rfl ?_ ?_ ?_ <;> simp only [go_sem, seval, reduceCtorEq, encFs_len, encFs_all, encF_eq, encFs]
      try simp only [go_sem, seval, reduceCtorEq, encFs_len, encFs_all]
      repeat (first | refine WK.blockSeq ?_ | refine WK.blockCond ?_ | refine WK.blockReg ?_ | (refine WK.condT ?_ ?_; (focus (simp only [go_sem, seval, reduceCtorEq, encFs_len, encFs_all]; done))) | (refine WK.condF ?_ ?_; (focus (simp only [go_sem, seval, reduceCtorEq, encFs_len, encFs_all]; done))) | refine WK.seq ?_ | ((first | refine WK.reg ?_ | refine WK.skip ?_ | refine WK.ret ?_ | refine WK.exit ?_); simp only [go_sem, seval, reduceCtorEq, encFs_len, encFs_all]) | ((with_reducible refine And.intro ?_ ?_); omega) | omega)
      rw [foldl_conj l f i hi]
      generalize (l.take i).foldl (fun a g => Fm.mk 4 0 [a, g]) f = acc
      refine Cut.less 1 [.int .i64 4, .int .i64 0, .list false (encFs [acc, l[i]])] (by simp only [go_sem, seval, reduceCtorEq, encFs_len, encFs_all]; rfl) ?_ ?_
      · exact ⟨.refl _, .refl _, AV.le_list' _, trivial⟩
      simp only [go_sem, seval, reduceCtorEq, encFs_len, encFs_all, op_mk, var_mk, args_mk]
      refine Cut.by' (by first | exact Nat.le_refl _ | (simp only [Sto.get_add, Sto.get_set, Sto.get_del, Sto.get_none, Sto.next_add, Sto.next_set, Sto.next_del, Sto.next_none]; omega)) (by first | exact Nat.le_refl _ | (simp only [Sto.get_add, Sto.get_set, Sto.get_del, Sto.get_none, Sto.next_add, Sto.next_set, Sto.next_del, Sto.next_none]; omega)) (fun i hi => ?_) (fun i o hi ho => ?_)
      · (try simp only [Sto.get_add, Sto.get_set, Sto.get_del, Sto.get_none, Sto.next_add, Sto.next_set, Sto.next_del, Sto.next_none] at hi ⊢); ((repeat' split) <;> first | exact .inl rfl | exact .inr rfl | omega | (simp_all; done))
      · (try simp only [Sto.get_add, Sto.get_set, Sto.get_del, Sto.get_none, Sto.next_add, Sto.next_set, Sto.next_del, Sto.next_none] at hi ho ⊢); ((repeat' split at ho) <;> (repeat' split) <;> first | (exact ⟨ho, .inl ho⟩) | (cases ho; done) | omega | (cases ho; refine ⟨rfl, .inl rfl⟩) | (cases ho; refine ⟨rfl, .inr ?_⟩; simp only [go_sem, seval, reduceCtorEq, encFs_len, encFs_all, encF_eq]; first | done | omega | (refine ⟨?_, ?_⟩ <;> omega)) | (simp_all; done))
    · simp only [go_sem, seval, reduceCtorEq, encFs_len, encFs_all, List.take_length]
      try simp only [go_sem, seval, reduceCtorEq, encFs_len, encFs_all]
      repeat (first | refine WK.blockSeq ?_ | refine WK.blockCond ?_ | refine WK.blockReg ?_ | (refine WK.condT ?_ ?_; (focus (simp only [go_sem, seval, reduceCtorEq, encFs_len, encFs_all]; done))) | (refine WK.condF ?_ ?_; (focus (simp only [go_sem, seval, reduceCtorEq, encFs_len, encFs_all]; done))) | refine WK.seq ?_ | ((first | refine WK.reg ?_ | refine WK.skip ?_ | refine WK.ret ?_ | refine WK.exit ?_); simp only [go_sem, seval, reduceCtorEq, encFs_len, encFs_all]) | ((with_reducible refine And.intro ?_ ?_); omega) | omega)
      refine ⟨AV.le.refl _, ?_⟩
      refine Cut.by' (by first | exact Nat.le_refl _ | (simp only [Sto.get_add, Sto.get_set, Sto.get_del, Sto.get_none, Sto.next_add, Sto.next_set, Sto.next_del, Sto.next_none]; omega)) (by first | exact Nat.le_refl _ | (simp only [Sto.get_add, Sto.get_set, Sto.get_del, Sto.get_none, Sto.next_add, Sto.next_set, Sto.next_del, Sto.next_none]; omega)) (fun i hi => ?_) (fun i o hi ho => ?_)
      · (try simp only [Sto.get_add, Sto.get_set, Sto.get_del, Sto.get_none, Sto.next_add, Sto.next_set, Sto.next_del, Sto.next_none] at hi ⊢); ((repeat' split) <;> first | exact .inl rfl | exact .inr rfl | omega | (simp_all; done))
      · (try simp only [Sto.get_add, Sto.get_set, Sto.get_del, Sto.get_none, Sto.next_add, Sto.next_set, Sto.next_del, Sto.next_none] at hi ho ⊢); ((repeat' split at ho) <;> (repeat' split) <;> first | (exact ⟨ho, .inl ho⟩) | (cases ho; done) | omega | (cases ho; refine ⟨rfl, .inl rfl⟩) | (cases ho; refine ⟨rfl, .inr ?_⟩; simp only [go_sem, seval, reduceCtorEq, encFs_len, encFs_all]; first | done | omega | (refine ⟨?_, ?_⟩ <;> omega)) | (simp_all; done))
theorem often_ok (l : List Fm) (hl : l.length < 1000000) : PCall (C gl) 144 [.list false (encFs l)] (encF (conjF (oftenL l))) := by
  refine pcallX (callX_of b144 (by simp [Tryd.ntmps144]) ?_) (by simp only [AllCl, cl_list, clE_encFs, and_true]) (by simp only [cl_encF])
  refine W.of ?_
  rw [Tryd.ntmps144]
  simp only [toK, codeOf, Tryd.f144, go_sem, seval, reduceCtorEq]
  try simp only [go_sem, seval, reduceCtorEq, encFs_len]
  repeat (first | refine WK.blockSeq ?_ | refine WK.blockCond ?_ | refine WK.blockReg ?_ | (refine WK.condT ?_ ?_; (focus (simp only [go_sem, seval, reduceCtorEq, encFs_len]; done))) | (refine WK.condF ?_ ?_; (focus (simp only [go_sem, seval, reduceCtorEq, encFs_len]; done))) | refine WK.seq ?_ | ((first | refine WK.reg ?_ | refine WK.skip ?_ | refine WK.ret ?_ | refine WK.exit ?_); simp only [go_sem, seval, reduceCtorEq, encFs_len]) | ((with_reducible refine And.intro ?_ ?_); omega) | omega)
  refine WK.own0 3 3 (by decide) (by simp only [go_sem, seval, reduceCtorEq]) ?_
  refine WK.rangeX (l.length) [2, 6] [3] (fun i => [.own 1 (encFs ((l.take i).map fun f => .mk 10 0 [.mk 9 0 [f]]))]) (fun i => (Sto.none.add (.box [.int .i64 0, .int .i64 0, .list true []])).add (.tok 3 i)) (by omega) (by decide) (by simp only [go_sem, seval, reduceCtorEq, encFs_len, encFs]) (by simp only [go_sem, seval, reduceCtorEq, encFs_len, encFs]) (by simp only [go_sem, seval, reduceCtorEq, encFs_len, encFs, List.take_zero]) (by first | rfl | (simp only [go_sem, seval, reduceCtorEq, encFs_len, encFs]; done) | (refine Sto.ext' (by simp only [go_sem, seval, reduceCtorEq, encFs_len, encFs]) (fun i => ?_); simp only [go_sem, seval, reduceCtorEq, encFs_len, encFs]; repeat' split; all_goals (first | rfl | omega | simp_all))) ?_ ?_
  · intro i hi
    simp only [go_sem, seval, reduceCtorEq, encFs_len]
    try simp only [go_sem, seval, reduceCtorEq, encFs_len, encFs_get, hi, encF_eq]
    repeat (first | refine WK.blockSeq ?_ | refine WK.blockCond ?_ | refine WK.blockReg ?_ | (refine WK.condT ?_ ?_; (focus (simp only [go_sem, seval, reduceCtorEq, encFs_len, encFs_get, hi, encF_eq]; done))) | (refine WK.condF ?_ ?_; (focus (simp only [go_sem, seval, reduceCtorEq, encFs_len, encFs_get, hi, encF_eq]; done))) | refine WK.seq ?_ | ((first | refine WK.reg ?_ | refine WK.skip ?_ | refine WK.ret ?_ | refine WK.exit ?_); simp only [go_sem, seval, reduceCtorEq, encFs_len, encFs_get, hi, encF_eq]) | ((with_reducible refine And.intro ?_ ?_); omega) | omega)
    refine callK_pureL (gop_ok (gl := gl) true 9 [l[i]]) rfl ?_ ?_ ?_ <;> simp only [go_sem, seval, reduceCtorEq, encFs_len, encF_eq, encFs]
    try simp only [go_sem, seval, reduceCtorEq, encFs_len]
    repeat (first | refine WK.blockSeq ?_ | refine WK.blockCond ?_ | refine WK.blockReg ?_ | (refine WK.condT ?_ ?_; (focus (simp only [go_sem, seval, reduceCtorEq, encFs_len]; done))) | (refine WK.condF ?_ ?_; (focus (simp only [go_sem, seval, reduceCtorEq, encFs_len]; done))) | refine WK.seq ?_ | ((first | refine WK.reg ?_ | refine WK.skip ?_ | refine WK.ret ?_ | refine WK.exit ?_); simp only [go_sem, seval, reduceCtorEq, encFs_len]) | ((with_reducible refine And.intro ?_ ?_); omega) | omega)
    refine callK_pureL (gop_ok (gl := gl) true 10 [.mk 9 0 [l[i]]]) rfl ?_ ?_ ?_ <;> simp only [go_sem, seval, reduceCtorEq, encFs_len, encF_eq, encFs]
    try simp only [go_sem, seval, reduceCtorEq, encFs_len]
    repeat (first | refine WK.blockSeq ?_ | refine WK.blockCond ?_ | refine WK.blockReg ?_ | (refine WK.condT ?_ ?_; (focus (simp only [go_sem, seval, reduceCtorEq, encFs_len]; done))) | (refine WK.condF ?_ ?_; (focus (simp only [go_sem, seval, reduceCtorEq, encFs_len]; done))) | refine WK.seq ?_ | ((first | refine WK.reg ?_ | refine WK.skip ?_ | refine WK.ret ?_ | refine WK.exit ?_); simp only [go_sem, seval, reduceCtorEq, encFs_len]) | ((with_reducible refine And.intro ?_ ?_); omega) | omega)
    refine appK_own (f := _) (by simp only [go_sem, seval, reduceCtorEq, encFs_len, encFs_len]; rfl) (by simp only [go_sem, seval, reduceCtorEq, encFs_len, encFs_len]; rfl) (by simp only [go_sem, seval, reduceCtorEq, encFs_len, encFs_len]; rfl) (by simp only [go_sem, seval, reduceCtorEq, encFs_len, encFs_len]) (by simp only [go_sem, seval, reduceCtorEq, encFs_len, encFs_len, List.length_map, List.length_take, List.length_range, List.length_append, List.length_cons, List.length_nil]; first | done | omega) ?_ (by simp only [go_sem, seval, reduceCtorEq, encFs_len, encFs_len]; rfl) (by simp only [go_sem, seval, reduceCtorEq, encFs_len, encFs_len]) ?_ (by kernel_rfl) (by simp only [go_sem, seval, reduceCtorEq, encFs_len, encFs_len, List.length_map, List.length_take, List.length_range, List.length_append, List.length_cons, List.length_nil]; omega) (by simp only [go_sem, seval, reduceCtorEq, encFs_len, encFs_len, List.length_map, List.length_take, List.length_range, List.length_append, List.length_cons, List.length_nil]; omega) ?_
    all_goals (try simp only [go_sem, seval, reduceCtorEq, encFs_len, encFs_len])
    all_goals (try (refine okes_map fun _ => ?_; simp only [go_sem, seval, reduceCtorEq, encFs_len, encFs_len]; done))
    try simp only [go_sem, seval, reduceCtorEq, encFs_len]
    repeat (first | refine WK.blockSeq ?_ | refine WK.blockCond ?_ | refine WK.blockReg ?_ | (refine WK.condT ?_ ?_; (focus (simp only [go_sem, seval, reduceCtorEq, encFs_len]; done))) | (refine WK.condF ?_ ?_; (focus (simp only [go_sem, seval, reduceCtorEq, encFs_len]; done))) | refine WK.seq ?_ | ((first | refine WK.reg ?_ | refine WK.skip ?_ | refine WK.ret ?_ | refine WK.exit ?_); simp only [go_sem, seval, reduceCtorEq, encFs_len]) | ((with_reducible refine And.intro ?_ ?_); omega) | omega)
    refine ⟨?_, ?_⟩
    · rw [encFs_take l _ i hi]; exact .refl _
    refine Cut.by' (by first | exact Nat.le_refl _ | (simp only [Sto.get_add, Sto.get_set, Sto.get_del, Sto.get_none, Sto.next_add, Sto.next_set, Sto.next_del, Sto.next_none]; omega)) (by first | exact Nat.le_refl _ | (simp only [Sto.get_add, Sto.get_set, Sto.get_del, Sto.get_none, Sto.next_add, Sto.next_set, Sto.next_del, Sto.next_none]; omega)) (fun i hi => ?_) (fun i o hi ho => ?_)
    · (try simp only [Sto.get_add, Sto.get_set, Sto.get_del, Sto.get_none, Sto.next_add, Sto.next_set, Sto.next_del, Sto.next_none] at hi ⊢); ((repeat' split) <;> first | exact .inl rfl | exact .inr rfl | omega | (simp_all; done))
    · (try simp only [Sto.get_add, Sto.get_set, Sto.get_del, Sto.get_none, Sto.next_add, Sto.next_set, Sto.next_del, Sto.next_none] at hi ho ⊢); ((repeat' split at ho) <;> (repeat' split) <;> first | (exact ⟨ho, .inl ho⟩) | (cases ho; done) | omega | (cases ho; refine ⟨rfl, .inl rfl⟩) | (cases ho; refine ⟨rfl, .inr ?_⟩; simp only [go_sem, seval, reduceCtorEq, encFs_len, encF_eq]; first | done | omega | (refine ⟨?_, ?_⟩ <;> omega)) | (simp_all; done))
  · simp only [go_sem, seval, reduceCtorEq, encFs_len, List.take_length]
    try simp only [go_sem, seval, reduceCtorEq, encFs_len]
    repeat (first | refine WK.blockSeq ?_ | refine WK.blockCond ?_ | refine WK.blockReg ?_ | (refine WK.condT ?_ ?_; (focus (simp only [go_sem, seval, reduceCtorEq, encFs_len]; done))) | (refine WK.condF ?_ ?_; (focus (simp only [go_sem, seval, reduceCtorEq, encFs_len]; done))) | refine WK.seq ?_ | ((first | refine WK.reg ?_ | refine WK.skip ?_ | refine WK.ret ?_ | refine WK.exit ?_); simp only [go_sem, seval, reduceCtorEq, encFs_len]) | ((with_reducible refine And.intro ?_ ?_); omega) | omega)
    refine callK_pureL (conj_ok (gl := gl) (oftenL l) (by simpa [oftenL] using hl)) rfl ?_ ?_ ?_ <;> simp only [go_sem, seval, reduceCtorEq, encFs_len, encF_eq, oftenL]
    try simp only [go_sem, seval, reduceCtorEq, encFs_len]
    repeat (first | refine WK.blockSeq ?_ | refine WK.blockCond ?_ | refine WK.blockReg ?_ | (refine WK.condT ?_ ?_; (focus (simp only [go_sem, seval, reduceCtorEq, encFs_len]; done))) | (refine WK.condF ?_ ?_; (focus (simp only [go_sem, seval, reduceCtorEq, encFs_len]; done))) | refine WK.seq ?_ | ((first | refine WK.reg ?_ | refine WK.skip ?_ | refine WK.ret ?_ | refine WK.exit ?_); simp only [go_sem, seval, reduceCtorEq, encFs_len]) | ((with_reducible refine And.intro ?_ ?_); omega) | omega)
    refine Cut.by' (by first | exact Nat.le_refl _ | (simp only [Sto.get_add, Sto.get_set, Sto.get_del, Sto.get_none, Sto.next_add, Sto.next_set, Sto.next_del, Sto.next_none]; omega)) (by first | exact Nat.le_refl _ | (simp only [Sto.get_add, Sto.get_set, Sto.get_del, Sto.get_none, Sto.next_add, Sto.next_set, Sto.next_del, Sto.next_none]; omega)) (fun i hi => ?_) (fun i o hi ho => ?_)
    · (try simp only [Sto.get_add, Sto.get_set, Sto.get_del, Sto.get_none, Sto.next_add, Sto.next_set, Sto.next_del, Sto.next_none] at hi ⊢); ((repeat' split) <;> first | exact .inl rfl | exact .inr rfl | omega | (simp_all; done))
    · (try simp only [Sto.get_add, Sto.get_set, Sto.get_del, Sto.get_none, Sto.next_add, Sto.next_set, Sto.next_del, Sto.next_none] at hi ho ⊢); ((repeat' split at ho) <;> (repeat' split) <;> first | (exact ⟨ho, .inl ho⟩) | (cases ho; done) | omega | (cases ho; refine ⟨rfl, .inl rfl⟩) | (cases ho; refine ⟨rfl, .inr ?_⟩; simp only [go_sem, seval, reduceCtorEq, encFs_len]; first | done | omega | (refine ⟨?_, ?_⟩ <;> omega)) | (simp_all; done))
theorem gformula_ok0 (c : Ct) (hj : c.je.length < 1000000) (hj2 : c.js.length < 1000000) : PCall (C gl) 82 [encC c] (encF (fmlC c)) := by
  refine pcallX (callX_of b82 (by simp [Tryd.ntmps82]) ?_) (by simp only [AllCl, cl_encC, and_true]) (by simp only [cl_encF])
  refine W.of ?_
  rw [Tryd.ntmps82]
  simp only [toK, codeOf, Tryd.f82, go_sem, seval, reduceCtorEq]
  try simp only [go_sem, seval, reduceCtorEq, ctCells]
  repeat (first | refine WK.blockSeq ?_ | refine WK.blockCond ?_ | refine WK.blockReg ?_ | (refine WK.condT ?_ ?_; (focus (simp only [go_sem, seval, reduceCtorEq, ctCells]; done))) | (refine WK.condF ?_ ?_; (focus (simp only [go_sem, seval, reduceCtorEq, ctCells]; done))) | refine WK.seq ?_ | ((first | refine WK.reg ?_ | refine WK.skip ?_ | refine WK.ret ?_ | refine WK.exit ?_); simp only [go_sem, seval, reduceCtorEq, ctCells]) | ((with_reducible refine And.intro ?_ ?_); omega) | omega)
  refine WK.drawF [⟨false, 0, 0⟩, ⟨false, 0, 6⟩, ⟨false, 0, 0⟩, ⟨true, 0, 0⟩, ⟨false, 0, 0⟩, ⟨false, 1, 5⟩, ⟨true, 0, 0⟩, ⟨false, 0, 0⟩, ⟨true, 0, 0⟩, ⟨false, 0, 0⟩, ⟨false, 3, 3⟩, ⟨true, 0, 0⟩, ⟨false, 0, 0⟩, ⟨true, 0, 0⟩, ⟨true, 0, 0⟩, ⟨true, 0, 0⟩] mixed (by kernel_rfl) ?_
  simp only [go_sem, seval, reduceCtorEq]
  refine callD_pure (gop_ok (gl := gl) true 10 [c.se]) rfl ?_ ?_ ?_ <;> simp only [go_sem, seval, reduceCtorEq, encF_eq, encFs]
  refine callD_pure (often_ok (gl := gl) c.je hj) rfl ?_ ?_ ?_ <;> simp only [go_sem, seval, reduceCtorEq, encF_eq]
  refine callD_pure (gop_ok (gl := gl) true 4 [.mk 10 0 [c.se], conjF (oftenL c.je)]) rfl ?_ ?_ ?_ <;> simp only [go_sem, seval, reduceCtorEq, encF_eq, encFs]
  refine callD_pure (often_ok (gl := gl) c.js hj2) rfl ?_ ?_ ?_ <;> simp only [go_sem, seval, reduceCtorEq, encF_eq]
  refine callD_pure (gop_ok (gl := gl) true 6 [.mk 4 0 [.mk 10 0 [c.se], conjF (oftenL c.je)], conjF (oftenL c.js)]) rfl ?_ ?_ ?_ <;> simp only [go_sem, seval, reduceCtorEq, encF_eq, encFs]
  try simp only [go_sem, seval, reduceCtorEq]
  repeat (first | refine WK.blockSeq ?_ | refine WK.blockCond ?_ | refine WK.blockReg ?_ | (refine WK.condT ?_ ?_; (focus (simp only [go_sem, seval, reduceCtorEq]; done))) | (refine WK.condF ?_ ?_; (focus (simp only [go_sem, seval, reduceCtorEq]; done))) | refine WK.seq ?_ | ((first | refine WK.reg ?_ | refine WK.skip ?_ | refine WK.ret ?_ | refine WK.exit ?_); simp only [go_sem, seval, reduceCtorEq]) | ((with_reducible refine And.intro ?_ ?_); omega) | omega)
  refine WK.drawF [⟨false, 0, 0⟩, ⟨false, 0, 3⟩, ⟨false, 0, 0⟩, ⟨false, 0, 3⟩, ⟨false, 0, 0⟩, ⟨true, 0, 0⟩, ⟨false, 0, 0⟩, ⟨true, 0, 0⟩, ⟨true, 0, 0⟩, ⟨true, 0, 0⟩] mixed (by kernel_rfl) ?_
  simp only [go_sem, seval, reduceCtorEq]
  refine callD_pure (gop_ok (gl := gl) true 3 [c.se]) rfl ?_ ?_ ?_ <;> simp only [go_sem, seval, reduceCtorEq, encF_eq, encFs]
  refine callD_pure (gop_ok (gl := gl) true 13 [c.ss, .mk 3 0 [c.se]]) rfl ?_ ?_ ?_ <;> simp only [go_sem, seval, reduceCtorEq, encF_eq, encFs]
  try simp only [go_sem, seval, reduceCtorEq]
  repeat (first | refine WK.blockSeq ?_ | refine WK.blockCond ?_ | refine WK.blockReg ?_ | (refine WK.condT ?_ ?_; (focus (simp only [go_sem, seval, reduceCtorEq]; done))) | (refine WK.condF ?_ ?_; (focus (simp only [go_sem, seval, reduceCtorEq]; done))) | refine WK.seq ?_ | ((first | refine WK.reg ?_ | refine WK.skip ?_ | refine WK.ret ?_ | refine WK.exit ?_); simp only [go_sem, seval, reduceCtorEq]) | ((with_reducible refine And.intro ?_ ?_); omega) | omega)
  refine WK.draw [⟨false, 0, 0⟩, ⟨false, 0, 2⟩, ⟨false, 0, 0⟩, ⟨false, 0, 1⟩, ⟨false, 0, 0⟩, ⟨false, 0, 0⟩, ⟨false, 0, 0⟩, ⟨true, 0, 0⟩, ⟨false, 0, 0⟩, ⟨true, 0, 0⟩, ⟨false, 0, 0⟩, ⟨true, 0, 0⟩, ⟨true, 0, 0⟩] mixed (by kernel_rfl) ?_
  simp only [go_sem, seval, reduceCtorEq]
  refine callD_pure (gop_ok (gl := gl) true 4 [.mk 13 0 [c.ss, .mk 3 0 [c.se]], .mk 6 0 [.mk 4 0 [.mk 10 0 [c.se], conjF (oftenL c.je)], conjF (oftenL c.js)]]) rfl ?_ ?_ ?_ <;> simp only [go_sem, seval, reduceCtorEq, encF_eq, encFs]
  refine callD_pure (gop_ok (gl := gl) true 4 [c.is, .mk 4 0 [.mk 13 0 [c.ss, .mk 3 0 [c.se]], .mk 6 0 [.mk 4 0 [.mk 10 0 [c.se], conjF (oftenL c.je)], conjF (oftenL c.js)]]]) rfl ?_ ?_ ?_ <;> simp only [go_sem, seval, reduceCtorEq, encF_eq, encFs]
  refine callD_pure (gop_ok (gl := gl) true 6 [c.ie, .mk 4 0 [c.is, .mk 4 0 [.mk 13 0 [c.ss, .mk 3 0 [c.se]], .mk 6 0 [.mk 4 0 [.mk 10 0 [c.se], conjF (oftenL c.je)], conjF (oftenL c.js)]]]]) rfl ?_ ?_ ?_ <;> simp only [go_sem, seval, reduceCtorEq, encF_eq, encFs]
  try simp only [go_sem, seval, reduceCtorEq]
  repeat (first | refine WK.blockSeq ?_ | refine WK.blockCond ?_ | refine WK.blockReg ?_ | (refine WK.condT ?_ ?_; (focus (simp only [go_sem, seval, reduceCtorEq]; done))) | (refine WK.condF ?_ ?_; (focus (simp only [go_sem, seval, reduceCtorEq]; done))) | refine WK.seq ?_ | ((first | refine WK.reg ?_ | refine WK.skip ?_ | refine WK.ret ?_ | refine WK.exit ?_); simp only [go_sem, seval, reduceCtorEq]) | ((with_reducible refine And.intro ?_ ?_); omega) | omega)
  refine ⟨AV.le.refl _, ?_⟩
  refine Cut.by' (by first | exact Nat.le_refl _ | (simp only [Sto.get_add, Sto.get_set, Sto.get_del, Sto.get_none, Sto.next_add, Sto.next_set, Sto.next_del, Sto.next_none]; omega)) (by first | exact Nat.le_refl _ | (simp only [Sto.get_add, Sto.get_set, Sto.get_del, Sto.get_none, Sto.next_add, Sto.next_set, Sto.next_del, Sto.next_none]; omega)) (fun i hi => ?_) (fun i o hi ho => ?_)
  · (try simp only [Sto.get_add, Sto.get_set, Sto.get_del, Sto.get_none, Sto.next_add, Sto.next_set, Sto.next_del, Sto.next_none] at hi ⊢); ((repeat' split) <;> first | exact .inl rfl | exact .inr rfl | omega | (simp_all; done))
  · (try simp only [Sto.get_add, Sto.get_set, Sto.get_del, Sto.get_none, Sto.next_add, Sto.next_set, Sto.next_del, Sto.next_none] at hi ho ⊢); ((repeat' split at ho) <;> (repeat' split) <;> first | (exact ⟨ho, .inl ho⟩) | (cases ho; done) | omega | (cases ho; refine ⟨rfl, .inl rfl⟩) | (cases ho; refine ⟨rfl, .inr ?_⟩; simp only [go_sem, seval, reduceCtorEq]; first | done | omega | (refine ⟨?_, ?_⟩ <;> omega)) | (simp_all; done))
theorem own_k (o v : Int) (l : List Fm) (hlen : l.length < 1000000) (ih : ∀ g ∈ l, PCall (C gl) 83 [encF g] (encF g)) : PCall (C gl) 83 [encF (.mk o v l)] (encF (.mk o v l)) := by
  refine pcallX (callX_of b83 (by simp [Tryd.ntmps83]) ?_) (by simp only [AllCl, cl_encF, and_true]) (by simp only [cl_encF])
  refine W.of ?_
  rw [Tryd.ntmps83]
  simp only [toK, codeOf, Tryd.f83, go_sem, seval, reduceCtorEq]
  try simp only [go_sem, seval, reduceCtorEq, encFs_len, encF]
  repeat (first | refine WK.blockSeq ?_ | refine WK.blockCond ?_ | refine WK.blockReg ?_ | (refine WK.condT ?_ ?_; (focus (simp only [go_sem, seval, reduceCtorEq, encFs_len, encF]; done))) | (refine WK.condF ?_ ?_; (focus (simp only [go_sem, seval, reduceCtorEq, encFs_len, encF]; done))) | refine WK.seq ?_ | ((first | refine WK.reg ?_ | refine WK.skip ?_ | refine WK.ret ?_ | refine WK.exit ?_); simp only [go_sem, seval, reduceCtorEq, encFs_len, encF]) | ((with_reducible refine And.intro ?_ ?_); omega) | omega)
  refine WK.ownBox0 2 2 3 (by simp only [go_sem, seval, reduceCtorEq, encFs_len]; rfl) (by rfl) ?_
  simp only [go_sem, seval, reduceCtorEq, encFs_len]
  refine WK.rangeX (l.length) [1, 2, 3, 12] [] (fun i => []) (fun i => (((Sto.none.add (.box [.int .i64 o, .int .i64 v, .list false (encFs l)])).add (.box [.int .i64 0, .int .i64 0, .list true []])).add (.box [.int .i64 o, .int .i64 v, .own 3 (encFs (l.take i))])).add (.tok 3 i)) (by omega) (by decide) (by simp only [go_sem, seval, reduceCtorEq, encFs_len, encFs]) (by simp only [go_sem, seval, reduceCtorEq, encFs_len, encFs]) (by simp only [go_sem, seval, reduceCtorEq, encFs_len, encFs, List.take_zero]) (by first | rfl | (simp only [go_sem, seval, reduceCtorEq, encFs_len, encFs]; done) | (refine Sto.ext' (by simp only [go_sem, seval, reduceCtorEq, encFs_len, encFs]) (fun i => ?_); simp only [go_sem, seval, reduceCtorEq, encFs_len, encFs]; repeat' split; all_goals (first | rfl | omega | simp_all))) ?_ ?_
  · intro i hi
    simp only [go_sem, seval, reduceCtorEq, encFs_len]
    try simp only [go_sem, seval, reduceCtorEq, encFs_len, encFs_get, hi, encF_eq]
    repeat (first | refine WK.blockSeq ?_ | refine WK.blockCond ?_ | refine WK.blockReg ?_ | (refine WK.condT ?_ ?_; (focus (simp only [go_sem, seval, reduceCtorEq, encFs_len, encFs_get, hi, encF_eq]; done))) | (refine WK.condF ?_ ?_; (focus (simp only [go_sem, seval, reduceCtorEq, encFs_len, encFs_get, hi, encF_eq]; done))) | refine WK.seq ?_ | ((first | refine WK.reg ?_ | refine WK.skip ?_ | refine WK.ret ?_ | refine WK.exit ?_); simp only [go_sem, seval, reduceCtorEq, encFs_len, encFs_get, hi, encF_eq]) | ((with_reducible refine And.intro ?_ ?_); omega) | omega)
    refine WK.draw [⟨false, 0, 0⟩, ⟨false, 0, 1⟩, ⟨false, 0, 0⟩, ⟨true, 0, 0⟩, ⟨false, 0, 0⟩, ⟨true, 0, 0⟩, ⟨false, 0, 0⟩, ⟨true, 0, 0⟩] mixed (by kernel_rfl) ?_
    simp only [go_sem, seval, reduceCtorEq, encFs_len]
    refine callD_pure (ih l[i] (List.getElem_mem hi)) rfl ?_ ?_ ?_ <;> simp only [go_sem, seval, reduceCtorEq, encFs_len, encF_eq]
    refine appD_own (f := _) (by simp only [go_sem, seval, reduceCtorEq, encFs_len]; rfl) (by simp only [go_sem, seval, reduceCtorEq, encFs_len]; rfl) (by simp only [go_sem, seval, reduceCtorEq, encFs_len]; rfl) (by simp only [go_sem, seval, reduceCtorEq, encFs_len]) (by simp only [go_sem, seval, reduceCtorEq, encFs_len, List.length_map, List.length_take, List.length_range, List.length_append, List.length_cons, List.length_nil]; first | done | omega) ?_ (by simp only [go_sem, seval, reduceCtorEq, encFs_len]; rfl) (by simp only [go_sem, seval, reduceCtorEq, encFs_len]) ?_ (by kernel_rfl) (by simp only [go_sem, seval, reduceCtorEq, encFs_len, List.length_map, List.length_take, List.length_range, List.length_append, List.length_cons, List.length_nil]; omega) (by simp only [go_sem, seval, reduceCtorEq, encFs_len, List.length_map, List.length_take, List.length_range, List.length_append, List.length_cons, List.length_nil]; omega) ?_
    all_goals (try simp only [go_sem, seval, reduceCtorEq, encFs_len])
    all_goals (try (refine okes_map fun _ => ?_; simp only [go_sem, seval, reduceCtorEq, encFs_len]; done))
    rw [encFs_tk1 l i hi]
    refine Cut.by' (by first | exact Nat.le_refl _ | (simp only [Sto.get_add, Sto.get_set, Sto.get_del, Sto.get_none, Sto.next_add, Sto.next_set, Sto.next_del, Sto.next_none]; omega)) (by first | exact Nat.le_refl _ | (simp only [Sto.get_add, Sto.get_set, Sto.get_del, Sto.get_none, Sto.next_add, Sto.next_set, Sto.next_del, Sto.next_none]; omega)) (fun i hi => ?_) (fun i o hi ho => ?_)
    · (try simp only [Sto.get_add, Sto.get_set, Sto.get_del, Sto.get_none, Sto.next_add, Sto.next_set, Sto.next_del, Sto.next_none] at hi ⊢); ((repeat' split) <;> first | exact .inl rfl | exact .inr rfl | omega | (simp_all; done))
    · (try simp only [Sto.get_add, Sto.get_set, Sto.get_del, Sto.get_none, Sto.next_add, Sto.next_set, Sto.next_del, Sto.next_none] at hi ho ⊢); ((repeat' split at ho) <;> (repeat' split) <;> first | (exact ⟨ho, .inl ho⟩) | (cases ho; done) | omega | (cases ho; refine ⟨rfl, .inl rfl⟩) | (cases ho; refine ⟨rfl, .inr ?_⟩; simp only [go_sem, seval, reduceCtorEq, encFs_len]; first | done | omega | (refine ⟨?_, ?_⟩ <;> omega)) | (simp_all; done))
  · simp only [go_sem, seval, reduceCtorEq, encFs_len, List.take_length]
    try simp only [go_sem, seval, reduceCtorEq, encFs_len]
    repeat (first | refine WK.blockSeq ?_ | refine WK.blockCond ?_ | refine WK.blockReg ?_ | (refine WK.condT ?_ ?_; (focus (simp only [go_sem, seval, reduceCtorEq, encFs_len]; done))) | (refine WK.condF ?_ ?_; (focus (simp only [go_sem, seval, reduceCtorEq, encFs_len]; done))) | refine WK.seq ?_ | ((first | refine WK.reg ?_ | refine WK.skip ?_ | refine WK.ret ?_ | refine WK.exit ?_); simp only [go_sem, seval, reduceCtorEq, encFs_len]) | ((with_reducible refine And.intro ?_ ?_); omega) | omega)
    refine ⟨AV.le_agg ⟨.refl _, .refl _, le_own _ _, trivial⟩, ?_⟩
    refine Cut.by' (by first | exact Nat.le_refl _ | (simp only [Sto.get_add, Sto.get_set, Sto.get_del, Sto.get_none, Sto.next_add, Sto.next_set, Sto.next_del, Sto.next_none]; omega)) (by first | exact Nat.le_refl _ | (simp only [Sto.get_add, Sto.get_set, Sto.get_del, Sto.get_none, Sto.next_add, Sto.next_set, Sto.next_del, Sto.next_none]; omega)) (fun i hi => ?_) (fun i o hi ho => ?_)
    · (try simp only [Sto.get_add, Sto.get_set, Sto.get_del, Sto.get_none, Sto.next_add, Sto.next_set, Sto.next_del, Sto.next_none] at hi ⊢); ((repeat' split) <;> first | exact .inl rfl | exact .inr rfl | omega | (simp_all; done))
    · (try simp only [Sto.get_add, Sto.get_set, Sto.get_del, Sto.get_none, Sto.next_add, Sto.next_set, Sto.next_del, Sto.next_none] at hi ho ⊢); ((repeat' split at ho) <;> (repeat' split) <;> first | (exact ⟨ho, .inl ho⟩) | (cases ho; done) | omega | (cases ho; refine ⟨rfl, .inl rfl⟩) | (cases ho; refine ⟨rfl, .inr ?_⟩; simp only [go_sem, seval, reduceCtorEq, encFs_len]; first | done | omega | (refine ⟨?_, ?_⟩ <;> omega)) | (simp_all; done))
mutual
/-- No list is longer than so. -/
def ShorF : Fm → Prop
  | .mk _ _ l => l.length < 1000000 ∧ ShorL l
def ShorL : List Fm → Prop
  | [] => True
  | f :: l => ShorF f ∧ ShorL l
end
theorem ShorL.mem : ∀ {l : List Fm}, ShorL l → ∀ g ∈ l, ShorF g
  | f :: l, h, g, hg => by
    rcases List.mem_cons.1 hg with rfl | hg
    · exact h.1
    · exact ShorL.mem h.2 g hg
theorem own_ok (f : Fm) : ShorF f → PCall (C gl) 83 [encF f] (encF f) := by
  induction f using Fm.ind with
  | h o v l ih =>
    intro hs
    simp only [ShorF] at hs
    exact own_k o v l hs.1 fun g hg => ih g hg (hs.2.mem g hg)
theorem sameR_k (o v : Int) (l : List Fm) (hlen : l.length < 9223372036854775807) (ih : ∀ g ∈ l, ∀ g' : Fm, PCall (C gl) 32 [encF g, encF g'] (.bool (sameF g g'))) (o' v' : Int) (l' : List Fm) :
    PCall (C gl) 32 [encF (.mk o v l), encF (.mk o' v' l')] (.bool (sameF (.mk o v l) (.mk o' v' l'))) := by
  refine pcallX (callX_of b32 (by simp [Tryd.ntmps32]) ?_) (by simp only [AllCl, cl_encF, and_true]) (.bool _)
  refine W.of ?_
  rw [Tryd.ntmps32]
  simp only [toK, codeOf, Tryd.f32, go_sem, seval, reduceCtorEq]
  cases h1 : (o == o') with
  | false =>
    try simp only [go_sem, seval, reduceCtorEq, encFs_len, encF, bne, h1]
    repeat (first | refine WK.blockSeq ?_ | refine WK.blockCond ?_ | refine WK.blockReg ?_ | (refine WK.condT ?_ ?_; (focus (simp only [go_sem, seval, reduceCtorEq, encFs_len, encF, bne, h1]; done))) | (refine WK.condF ?_ ?_; (focus (simp only [go_sem, seval, reduceCtorEq, encFs_len, encF, bne, h1]; done))) | refine WK.seq ?_ | ((first | refine WK.reg ?_ | refine WK.skip ?_ | refine WK.ret ?_ | refine WK.exit ?_); simp only [go_sem, seval, reduceCtorEq, encFs_len, encF, bne, h1]) | ((with_reducible refine And.intro ?_ ?_); omega) | omega)
    refine ⟨by simp [sameF, h1], ?_⟩
    refine Cut.by' (by first | exact Nat.le_refl _ | (simp only [Sto.get_add, Sto.get_set, Sto.get_del, Sto.get_none, Sto.next_add, Sto.next_set, Sto.next_del, Sto.next_none]; omega)) (by first | exact Nat.le_refl _ | (simp only [Sto.get_add, Sto.get_set, Sto.get_del, Sto.get_none, Sto.next_add, Sto.next_set, Sto.next_del, Sto.next_none]; omega)) (fun i hi => ?_) (fun i o hi ho => ?_)
    · (try simp only [Sto.get_add, Sto.get_set, Sto.get_del, Sto.get_none, Sto.next_add, Sto.next_set, Sto.next_del, Sto.next_none] at hi ⊢); ((repeat' split) <;> first | exact .inl rfl | exact .inr rfl | omega | (simp_all; done))
    · (try simp only [Sto.get_add, Sto.get_set, Sto.get_del, Sto.get_none, Sto.next_add, Sto.next_set, Sto.next_del, Sto.next_none] at hi ho ⊢); ((repeat' split at ho) <;> (repeat' split) <;> first | (exact ⟨ho, .inl ho⟩) | (cases ho; done) | omega | (cases ho; refine ⟨rfl, .inl rfl⟩) | (cases ho; refine ⟨rfl, .inr ?_⟩; simp only [go_sem, seval, reduceCtorEq, encFs_len]; first | done | omega | (refine ⟨?_, ?_⟩ <;> omega)) | (simp_all; done))
  | true =>
  cases h2 : (v == v') with
  | false =>
    try simp only [go_sem, seval, reduceCtorEq, encFs_len, encF, bne, h1, h2]
    repeat (first | refine WK.blockSeq ?_ | refine WK.blockCond ?_ | refine WK.blockReg ?_ | (refine WK.condT ?_ ?_; (focus (simp only [go_sem, seval, reduceCtorEq, encFs_len, encF, bne, h1, h2]; done))) | (refine WK.condF ?_ ?_; (focus (simp only [go_sem, seval, reduceCtorEq, encFs_len, encF, bne, h1, h2]; done))) | refine WK.seq ?_ | ((first | refine WK.reg ?_ | refine WK.skip ?_ | refine WK.ret ?_ | refine WK.exit ?_); simp only [go_sem, seval, reduceCtorEq, encFs_len, encF, bne, h1, h2]) | ((with_reducible refine And.intro ?_ ?_); omega) | omega)
    refine ⟨by simp [sameF, h2], ?_⟩
    refine Cut.by' (by first | exact Nat.le_refl _ | (simp only [Sto.get_add, Sto.get_set, Sto.get_del, Sto.get_none, Sto.next_add, Sto.next_set, Sto.next_del, Sto.next_none]; omega)) (by first | exact Nat.le_refl _ | (simp only [Sto.get_add, Sto.get_set, Sto.get_del, Sto.get_none, Sto.next_add, Sto.next_set, Sto.next_del, Sto.next_none]; omega)) (fun i hi => ?_) (fun i o hi ho => ?_)
    · (try simp only [Sto.get_add, Sto.get_set, Sto.get_del, Sto.get_none, Sto.next_add, Sto.next_set, Sto.next_del, Sto.next_none] at hi ⊢); ((repeat' split) <;> first | exact .inl rfl | exact .inr rfl | omega | (simp_all; done))
    · (try simp only [Sto.get_add, Sto.get_set, Sto.get_del, Sto.get_none, Sto.next_add, Sto.next_set, Sto.next_del, Sto.next_none] at hi ho ⊢); ((repeat' split at ho) <;> (repeat' split) <;> first | (exact ⟨ho, .inl ho⟩) | (cases ho; done) | omega | (cases ho; refine ⟨rfl, .inl rfl⟩) | (cases ho; refine ⟨rfl, .inr ?_⟩; simp only [go_sem, seval, reduceCtorEq, encFs_len]; first | done | omega | (refine ⟨?_, ?_⟩ <;> omega)) | (simp_all; done))
  | true =>
  cases h3 : ((l.length : Int) == (l'.length : Int)) with
  | false =>
    try simp only [go_sem, seval, reduceCtorEq, encFs_len, encF, bne, h1, h2, h3]
    repeat (first | refine WK.blockSeq ?_ | refine WK.blockCond ?_ | refine WK.blockReg ?_ | (refine WK.condT ?_ ?_; (focus (simp only [go_sem, seval, reduceCtorEq, encFs_len, encF, bne, h1, h2, h3]; done))) | (refine WK.condF ?_ ?_; (focus (simp only [go_sem, seval, reduceCtorEq, encFs_len, encF, bne, h1, h2, h3]; done))) | refine WK.seq ?_ | ((first | refine WK.reg ?_ | refine WK.skip ?_ | refine WK.ret ?_ | refine WK.exit ?_); simp only [go_sem, seval, reduceCtorEq, encFs_len, encF, bne, h1, h2, h3]) | ((with_reducible refine And.intro ?_ ?_); omega) | omega)
    refine ⟨by simp [sameF, sameL_len h3], ?_⟩
    refine Cut.by' (by first | exact Nat.le_refl _ | (simp only [Sto.get_add, Sto.get_set, Sto.get_del, Sto.get_none, Sto.next_add, Sto.next_set, Sto.next_del, Sto.next_none]; omega)) (by first | exact Nat.le_refl _ | (simp only [Sto.get_add, Sto.get_set, Sto.get_del, Sto.get_none, Sto.next_add, Sto.next_set, Sto.next_del, Sto.next_none]; omega)) (fun i hi => ?_) (fun i o hi ho => ?_)
    · (try simp only [Sto.get_add, Sto.get_set, Sto.get_del, Sto.get_none, Sto.next_add, Sto.next_set, Sto.next_del, Sto.next_none] at hi ⊢); ((repeat' split) <;> first | exact .inl rfl | exact .inr rfl | omega | (simp_all; done))
    · (try simp only [Sto.get_add, Sto.get_set, Sto.get_del, Sto.get_none, Sto.next_add, Sto.next_set, Sto.next_del, Sto.next_none] at hi ho ⊢); ((repeat' split at ho) <;> (repeat' split) <;> first | (exact ⟨ho, .inl ho⟩) | (cases ho; done) | omega | (cases ho; refine ⟨rfl, .inl rfl⟩) | (cases ho; refine ⟨rfl, .inr ?_⟩; simp only [go_sem, seval, reduceCtorEq, encFs_len]; first | done | omega | (refine ⟨?_, ?_⟩ <;> omega)) | (simp_all; done))
  | true =>
  try simp only [go_sem, seval, reduceCtorEq, encFs_len, encF, bne, h1, h2, h3]
  repeat (first | refine WK.blockSeq ?_ | refine WK.blockCond ?_ | refine WK.blockReg ?_ | (refine WK.condT ?_ ?_; (focus (simp only [go_sem, seval, reduceCtorEq, encFs_len, encF, bne, h1, h2, h3]; done))) | (refine WK.condF ?_ ?_; (focus (simp only [go_sem, seval, reduceCtorEq, encFs_len, encF, bne, h1, h2, h3]; done))) | refine WK.seq ?_ | ((first | refine WK.reg ?_ | refine WK.skip ?_ | refine WK.ret ?_ | refine WK.exit ?_); simp only [go_sem, seval, reduceCtorEq, encFs_len, encF, bne, h1, h2, h3]) | ((with_reducible refine And.intro ?_ ?_); omega) | omega)
  have hll : l.length = l'.length := by have : (l.length : Int) = l'.length := by simpa using h3
                                        omega
  refine WK.rangeI (l.length) [2, 3] [] (fun i => []) (fun i => (Sto.none.add (.box [.int .i64 o, .int .i64 v, .list false (encFs l)])).add (.box [.int .i64 o', .int .i64 v', .list false (encFs l')])) (fun i => l.take i = l'.take i) (by simp) (by omega) (by decide) (by simp only [go_sem, seval, reduceCtorEq, encFs_len]) (by simp only [go_sem, seval, reduceCtorEq, encFs_len]) (by simp only [go_sem, seval, reduceCtorEq, encFs_len, List.take_zero]) (by first | rfl | (simp only [go_sem, seval, reduceCtorEq, encFs_len]; done) | (refine Sto.ext' (by simp only [go_sem, seval, reduceCtorEq, encFs_len]) (fun i => ?_); simp only [go_sem, seval, reduceCtorEq, encFs_len]; repeat' split; all_goals (first | rfl | omega | simp_all))) ?_ ?_
  · intro i hi hI
    have hi' : i < l'.length := by omega
    have g1 := encFs_get l i hi
    have g2 := encFs_get l' i hi'
    simp only [go_sem, seval, reduceCtorEq, encFs_len, g1, g2, encF_eq]
    try simp only [go_sem, seval, reduceCtorEq, encFs_len, g1, g2, encF_eq]
    repeat (first | refine WK.blockSeq ?_ | refine WK.blockCond ?_ | refine WK.blockReg ?_ | (refine WK.condT ?_ ?_; (focus (simp only [go_sem, seval, reduceCtorEq, encFs_len, g1, g2, encF_eq]; done))) | (refine WK.condF ?_ ?_; (focus (simp only [go_sem, seval, reduceCtorEq, encFs_len, g1, g2, encF_eq]; done))) | refine WK.seq ?_ | ((first | refine WK.reg ?_ | refine WK.skip ?_ | refine WK.ret ?_ | refine WK.exit ?_); simp only [go_sem, seval, reduceCtorEq, encFs_len, g1, g2, encF_eq]) | ((with_reducible refine And.intro ?_ ?_); omega) | omega)
    refine WK.draw [⟨false, 0, 0⟩, ⟨false, 0, 0⟩, ⟨false, 0, 0⟩, ⟨false, 0, 0⟩, ⟨false, 0, 0⟩, ⟨false, 0, 0⟩, ⟨false, 0, 0⟩, ⟨false, 0, 0⟩, ⟨false, 0, 0⟩, ⟨false, 0, 0⟩, ⟨true, 0, 0⟩, ⟨false, 0, 0⟩] mixed (by kernel_rfl) ?_
    simp only [go_sem, seval, reduceCtorEq, encFs_len, g1, g2, encF_eq]
    try simp only [go_sem, seval, reduceCtorEq, encFs_len, g1, g2, encF_eq]
    repeat (first | refine WK.blockSeq ?_ | refine WK.blockCond ?_ | refine WK.blockReg ?_ | (refine WK.condT ?_ ?_; (focus (simp only [go_sem, seval, reduceCtorEq, encFs_len, g1, g2, encF_eq]; done))) | (refine WK.condF ?_ ?_; (focus (simp only [go_sem, seval, reduceCtorEq, encFs_len, g1, g2, encF_eq]; done))) | refine WK.seq ?_ | ((first | refine WK.reg ?_ | refine WK.skip ?_ | refine WK.ret ?_ | refine WK.exit ?_); simp only [go_sem, seval, reduceCtorEq, encFs_len, g1, g2, encF_eq]) | ((with_reducible refine And.intro ?_ ?_); omega) | omega)
    refine callD_pure (ih l[i] (List.getElem_mem hi) l'[i]) rfl ?_ ?_ ?_ <;> simp only [go_sem, seval, reduceCtorEq, encFs_len, g1, g2, encF_eq]
    cases hs : sameF l[i] l'[i] with
    | false =>
      try simp only [go_sem, seval, reduceCtorEq, encFs_len, g1, g2, encF_eq, hs]
      repeat (first | refine WK.blockSeq ?_ | refine WK.blockCond ?_ | refine WK.blockReg ?_ | (refine WK.condT ?_ ?_; (focus (simp only [go_sem, seval, reduceCtorEq, encFs_len, g1, g2, encF_eq, hs]; done))) | (refine WK.condF ?_ ?_; (focus (simp only [go_sem, seval, reduceCtorEq, encFs_len, g1, g2, encF_eq, hs]; done))) | refine WK.seq ?_ | ((first | refine WK.reg ?_ | refine WK.skip ?_ | refine WK.ret ?_ | refine WK.exit ?_); simp only [go_sem, seval, reduceCtorEq, encFs_len, g1, g2, encF_eq, hs]) | ((with_reducible refine And.intro ?_ ?_); omega) | omega)
      refine ⟨?_, ?_⟩
      · have hne : sameL l l' = false := Bool.eq_false_iff.2 fun e => by
          have := (sameL_iff l l').1 e
          subst this
          rw [sameF_self] at hs; cases hs
        simp [sameF, hne]
      refine Cut.by' (by first | exact Nat.le_refl _ | (simp only [Sto.get_add, Sto.get_set, Sto.get_del, Sto.get_none, Sto.next_add, Sto.next_set, Sto.next_del, Sto.next_none]; omega)) (by first | exact Nat.le_refl _ | (simp only [Sto.get_add, Sto.get_set, Sto.get_del, Sto.get_none, Sto.next_add, Sto.next_set, Sto.next_del, Sto.next_none]; omega)) (fun i hi => ?_) (fun i o hi ho => ?_)
      · (try simp only [Sto.get_add, Sto.get_set, Sto.get_del, Sto.get_none, Sto.next_add, Sto.next_set, Sto.next_del, Sto.next_none] at hi ⊢); ((repeat' split) <;> first | exact .inl rfl | exact .inr rfl | omega | (simp_all; done))
      · (try simp only [Sto.get_add, Sto.get_set, Sto.get_del, Sto.get_none, Sto.next_add, Sto.next_set, Sto.next_del, Sto.next_none] at hi ho ⊢); ((repeat' split at ho) <;> (repeat' split) <;> first | (exact ⟨ho, .inl ho⟩) | (cases ho; done) | omega | (cases ho; refine ⟨rfl, .inl rfl⟩) | (cases ho; refine ⟨rfl, .inr ?_⟩; simp only [go_sem, seval, reduceCtorEq, encFs_len, g1, g2, encF_eq]; first | done | omega | (refine ⟨?_, ?_⟩ <;> omega)) | (simp_all; done))
    | true =>
      try simp only [go_sem, seval, reduceCtorEq, encFs_len, g1, g2, encF_eq, hs]
      repeat (first | refine WK.blockSeq ?_ | refine WK.blockCond ?_ | refine WK.blockReg ?_ | (refine WK.condT ?_ ?_; (focus (simp only [go_sem, seval, reduceCtorEq, encFs_len, g1, g2, encF_eq, hs]; done))) | (refine WK.condF ?_ ?_; (focus (simp only [go_sem, seval, reduceCtorEq, encFs_len, g1, g2, encF_eq, hs]; done))) | refine WK.seq ?_ | ((first | refine WK.reg ?_ | refine WK.skip ?_ | refine WK.ret ?_ | refine WK.exit ?_); simp only [go_sem, seval, reduceCtorEq, encFs_len, g1, g2, encF_eq, hs]) | ((with_reducible refine And.intro ?_ ?_); omega) | omega)
      rw [← List.take_append_getElem hi, ← List.take_append_getElem hi', hI, (sameF_iff _ _).1 hs]
  · intro hI
    rw [List.take_length, hll, List.take_length] at hI
    subst hI
    simp only [go_sem, seval, reduceCtorEq, encFs_len]
    try simp only [go_sem, seval, reduceCtorEq, encFs_len]
    repeat (first | refine WK.blockSeq ?_ | refine WK.blockCond ?_ | refine WK.blockReg ?_ | (refine WK.condT ?_ ?_; (focus (simp only [go_sem, seval, reduceCtorEq, encFs_len]; done))) | (refine WK.condF ?_ ?_; (focus (simp only [go_sem, seval, reduceCtorEq, encFs_len]; done))) | refine WK.seq ?_ | ((first | refine WK.reg ?_ | refine WK.skip ?_ | refine WK.ret ?_ | refine WK.exit ?_); simp only [go_sem, seval, reduceCtorEq, encFs_len]) | ((with_reducible refine And.intro ?_ ?_); omega) | omega)
    refine ⟨?_, ?_⟩
    · have e1 : o = o' := by simpa using h1
      have e2 : v = v' := by simpa using h2
      subst e1; subst e2
      exact (sameF_self _).symm
    refine Cut.by' (by first | exact Nat.le_refl _ | (simp only [Sto.get_add, Sto.get_set, Sto.get_del, Sto.get_none, Sto.next_add, Sto.next_set, Sto.next_del, Sto.next_none]; omega)) (by first | exact Nat.le_refl _ | (simp only [Sto.get_add, Sto.get_set, Sto.get_del, Sto.get_none, Sto.next_add, Sto.next_set, Sto.next_del, Sto.next_none]; omega)) (fun i hi => ?_) (fun i o hi ho => ?_)
    · (try simp only [Sto.get_add, Sto.get_set, Sto.get_del, Sto.get_none, Sto.next_add, Sto.next_set, Sto.next_del, Sto.next_none] at hi ⊢); ((repeat' split) <;> first | exact .inl rfl | exact .inr rfl | omega | (simp_all; done))
    · (try simp only [Sto.get_add, Sto.get_set, Sto.get_del, Sto.get_none, Sto.next_add, Sto.next_set, Sto.next_del, Sto.next_none] at hi ho ⊢); ((repeat' split at ho) <;> (repeat' split) <;> first | (exact ⟨ho, .inl ho⟩) | (cases ho; done) | omega | (cases ho; refine ⟨rfl, .inl rfl⟩) | (cases ho; refine ⟨rfl, .inr ?_⟩; simp only [go_sem, seval, reduceCtorEq, encFs_len]; first | done | omega | (refine ⟨?_, ?_⟩ <;> omega)) | (simp_all; done))
theorem sameR_ok (f : Fm) : Shrt f → ∀ g : Fm, PCall (C gl) 32 [encF f, encF g] (.bool (sameF f g)) := by
  induction f using Fm.ind with
  | h o v l ih =>
    intro hs g
    simp only [Shrt] at hs
    obtain ⟨o', v', l'⟩ := g
    exact sameR_k o v l hs.1 (fun g hg => ih g hg (hs.2.mem g hg)) o' v' l'
end
end Go.Sx
