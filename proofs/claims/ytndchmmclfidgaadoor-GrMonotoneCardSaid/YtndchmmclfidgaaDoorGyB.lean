import Derived.Test.YtndchmmclfidgaaDoorGyA
import Derived.Test.YtndchmmclfidgaaDoorSxG
import Derived.Test.YtndchmmclfidgaaDoorLgX
set_option maxRecDepth 100000
set_option linter.unusedSimpArgs false
set_option linter.unusedVariables false
set_option linter.unnecessarySimpa false
namespace Go.Sx
open Go Go.Lg Go.Proofs
theorem b5 {gl : GL} : Body (C gl).P 5 Tryd.f5 (codeOf Tryd.f5) := ⟨Tryd.func5, by kernel_rfl, by kernel_rfl⟩

/-- The letters that are won, and the error: the contract valid or not. -/
def wonL (c : Ct) : List Bool := if validC c = true then bitsL (2 ^ (c.inn.toNat + c.out.toNat)) (wonB (tab c c.inn.toNat c.out.toNat)) else []
def wonE (c : Ct) : Int := if validC c = true then 0 else 1
theorem wonL_len (c : Ct) : (wonL c).length < 1000000 := by
  unfold wonL
  split
  · rename_i hv
    obtain ⟨a, b, hc⟩ := valid_ct hv
    have p3 := pow2_le (a := a + b) 6 (by have := hc.a3; have := hc.b3; omega)
    have e1 := hc.inn
    have e2 := hc.out
    rw [e1, e2, Int.toNat_natCast, Int.toNat_natCast]
    simp only [bitsL, List.length_map, List.length_range]; omega
  · simp
theorem encFs_mp : ∀ l : List Fm, encFs l = l.map encF
  | [] => rfl
  | f :: l => by simp only [encFs, List.map_cons, encFs_mp l]
theorem encFs_tk (l : List Fm) (k : Nat) : (encFs l).take k = encFs (l.take k) := by rw [encFs_mp, encFs_mp, List.map_take]
theorem encFs_dp (l : List Fm) (k : Nat) : (encFs l).drop k = encFs (l.drop k) := by rw [encFs_mp, encFs_mp, List.map_drop]
theorem encFs_cells3 (l : List Fm) : ∀ x ∈ encFs l, (match x with | AV.agg cs => cs | v => [v]).length = 3 := by
  intro x hx
  rw [encFs_mp] at hx
  obtain ⟨f, _, rfl⟩ := List.mem_map.1 hx
  rw [encF_eq]; rfl
def MonoOK (c d : Ct) : Prop := wonE c = 0 → wonE d = 0 → (wonL c).length = (wonL d).length ∧ ∀ l, (wonL c).getD l false = true → (wonL d).getD l false = true
theorem wonE_or (c : Ct) : wonE c = 0 ∨ wonE c = 1 := by unfold wonE; split <;> simp
theorem shrtL_snoc {l : List Fm} {f : Fm} (h : ShrtL l) (hf : Shrt f) : ShrtL (l ++ [f]) := by
  induction l with
  | nil => exact ⟨hf, trivial⟩
  | cons g l ih => exact ⟨h.1, ih h.2⟩
theorem shrtL_cut {l : List Fm} (h : ShrtL l) (k : Nat) : ShrtL (l.take k ++ l.drop (k + 1)) := by
  have of : ∀ {l : List Fm}, (∀ f ∈ l, Shrt f) → ShrtL l := fun {l} => by
    induction l with
    | nil => intro _; trivial
    | cons f l ih => intro h; exact ⟨h f (List.mem_cons_self ..), ih fun g hg => h g (List.mem_cons_of_mem _ hg)⟩
  refine of fun f hf => h.mem f ?_
  rcases List.mem_append.1 hf with hf | hf
  · exact List.mem_of_mem_take hf
  · exact List.mem_of_mem_drop hf
def monoS (c d : Ct) (f : Fm) : Sto := (((((Sto.none.add (.box (ctCells c))).add (.box [.int .i64 f.op, .int .i64 f.var, .list false (encFs f.args)])).add (.box (ctCells c))).add (.box (ctCells { c with je := c.je ++ [f] }))).add (.box (ctCells d))).add (.tok 3 (c.je.length + 1))
section
variable {gl : GL} (har : gl.at' 0 = arityA)
include har
theorem wonX (c : Ct) (hs : ShrtC c) : PCall (C gl) 17 [encC c] (.tup [.list false ((wonL c).map AV.bool), .int .i64 (wonE c)]) := by
  cases hv : validC c with
  | false => simpa [wonL, wonE, hv] using won_no (gl := gl) har c hs hv
  | true =>
    obtain ⟨a, b, hc⟩ := valid_ct hv
    have e1 := hc.inn
    have e2 := hc.out
    have := won_yes (gl := gl) har c a b hs hv hc.toCtOK (stab_tab hc.toCtOK)
    simpa only [wonL, wonE, hv, if_true, e1, e2, Int.toNat_natCast, encBs] using this
set_option maxHeartbeats 1000000 in
theorem grmono_ok (c : Ct) (f : Fm) (i : Int) (hs : ShrtC c) (hf : Shrt f) (h1 : fewC c = true → MonoOK c { c with je := c.je ++ [f] }) (h2 : fewC c = true → MonoOK c c)
    (h3 : fewC c = true → ∀ k < c.js.length, MonoOK c { c with js := c.js.take k ++ c.js.drop (k + 1) }) : PCall (C gl) 5 [encC c, encF f, .int .i64 i] (.bool true) := by
  refine pcallX (callX_of b5 (by simp [Tryd.ntmps5]) ?_) (by simp only [AllCl, cl_encC, cl_encF, cl_int, and_true]) (.bool _)
  have hk := awake_yes (gl := gl) har
  refine W.of ?_
  rw [Tryd.ntmps5]
  simp only [toK, codeOf, Tryd.f5, go_sem, seval, reduceCtorEq]
  try simp only [go_sem, seval, reduceCtorEq, ctCells, encF_eq]
  repeat (first | refine WK.blockSeq ?_ | refine WK.blockCond ?_ | refine WK.blockReg ?_ | (refine WK.condT ?_ ?_; (focus (simp only [go_sem, seval, reduceCtorEq, ctCells, encF_eq]; done))) | (refine WK.condF ?_ ?_; (focus (simp only [go_sem, seval, reduceCtorEq, ctCells, encF_eq]; done))) | refine WK.seq ?_ | (refine WK.reg ?_; simp only [go_sem, seval, reduceCtorEq, ctCells, encF_eq]) | (refine WK.skip ?_; simp only [go_sem, seval, reduceCtorEq, ctCells, encF_eq]) | (refine WK.ret ?_; simp only [go_sem, seval, reduceCtorEq, ctCells, encF_eq]) | (refine WK.exit ?_; simp only [go_sem, seval, reduceCtorEq, ctCells, encF_eq]) | ((with_reducible refine And.intro ?_ ?_); omega) | omega)
  refine callK_pureL (few_ok (gl := gl) c hs) rfl (by simp only [go_sem, seval, reduceCtorEq, ctCells]) (by simp only [go_sem, seval, reduceCtorEq, ctCells]) ?_
  simp only [go_sem, seval, reduceCtorEq, ctCells]
  cases hfc : fewC c with
  | false =>
    try simp only [go_sem, seval, reduceCtorEq]
    repeat (first | refine WK.blockSeq ?_ | refine WK.blockCond ?_ | refine WK.blockReg ?_ | (refine WK.condT ?_ ?_; (focus (simp only [go_sem, seval, reduceCtorEq]; done))) | (refine WK.condF ?_ ?_; (focus (simp only [go_sem, seval, reduceCtorEq]; done))) | refine WK.seq ?_ | (refine WK.reg ?_; simp only [go_sem, seval, reduceCtorEq]) | (refine WK.skip ?_; simp only [go_sem, seval, reduceCtorEq]) | (refine WK.ret ?_; simp only [go_sem, seval, reduceCtorEq]) | (refine WK.exit ?_; simp only [go_sem, seval, reduceCtorEq]) | ((with_reducible refine And.intro ?_ ?_); omega) | omega)
    refine callK_pureL (hk) rfl (by simp only [go_sem, seval, reduceCtorEq]) (by simp only [go_sem, seval, reduceCtorEq]) ?_
    simp only [go_sem, seval, reduceCtorEq]
    try simp only [go_sem, seval, reduceCtorEq]
    repeat (first | refine WK.blockSeq ?_ | refine WK.blockCond ?_ | refine WK.blockReg ?_ | (refine WK.condT ?_ ?_; (focus (simp only [go_sem, seval, reduceCtorEq]; done))) | (refine WK.condF ?_ ?_; (focus (simp only [go_sem, seval, reduceCtorEq]; done))) | refine WK.seq ?_ | (refine WK.reg ?_; simp only [go_sem, seval, reduceCtorEq]) | (refine WK.skip ?_; simp only [go_sem, seval, reduceCtorEq]) | (refine WK.ret ?_; simp only [go_sem, seval, reduceCtorEq]) | (refine WK.exit ?_; simp only [go_sem, seval, reduceCtorEq]) | ((with_reducible refine And.intro ?_ ?_); omega) | omega)
    refine Cut.by' (by first | exact Nat.le_refl _ | (simp only [Sto.get_add, Sto.get_set, Sto.get_del, Sto.get_none, Sto.next_add, Sto.next_set, Sto.next_del, Sto.next_none]; omega)) (by first | exact Nat.le_refl _ | (simp only [Sto.get_add, Sto.get_set, Sto.get_del, Sto.get_none, Sto.next_add, Sto.next_set, Sto.next_del, Sto.next_none]; omega)) (fun i hi => ?_) (fun i o hi ho => ?_)
    · (try simp only [Sto.get_add, Sto.get_set, Sto.get_del, Sto.get_none, Sto.next_add, Sto.next_set, Sto.next_del, Sto.next_none] at hi ⊢); ((repeat' split) <;> first | exact .inl rfl | exact .inr rfl | omega | (simp_all; done))
    · (try simp only [Sto.get_add, Sto.get_set, Sto.get_del, Sto.get_none, Sto.next_add, Sto.next_set, Sto.next_del, Sto.next_none] at hi ho ⊢); ((repeat' split at ho) <;> (repeat' split) <;> first | (exact ⟨ho, .inl ho⟩) | (cases ho; done) | omega | (cases ho; refine ⟨rfl, .inl rfl⟩) | (cases ho; refine ⟨rfl, .inr ?_⟩; simp only [go_sem, seval, reduceCtorEq]; first | done | omega | (refine ⟨?_, ?_⟩ <;> omega)) | (simp_all; done))
  | true =>
  try simp only [go_sem, seval, reduceCtorEq, encF_eq]
  repeat (first | refine WK.blockSeq ?_ | refine WK.blockCond ?_ | refine WK.blockReg ?_ | (refine WK.condT ?_ ?_; (focus (simp only [go_sem, seval, reduceCtorEq, encF_eq]; done))) | (refine WK.condF ?_ ?_; (focus (simp only [go_sem, seval, reduceCtorEq, encF_eq]; done))) | refine WK.seq ?_ | (refine WK.reg ?_; simp only [go_sem, seval, reduceCtorEq, encF_eq]) | (refine WK.skip ?_; simp only [go_sem, seval, reduceCtorEq, encF_eq]) | (refine WK.ret ?_; simp only [go_sem, seval, reduceCtorEq, encF_eq]) | (refine WK.exit ?_; simp only [go_sem, seval, reduceCtorEq, encF_eq]) | ((with_reducible refine And.intro ?_ ?_); omega) | omega)
  refine callK_pureL (fewR_ok (gl := gl) f hf 100 (by omega) (by omega)) rfl (by simp only [go_sem, seval, reduceCtorEq, encF_eq]) (by simp only [go_sem, seval, reduceCtorEq, encF_eq]) ?_
  simp only [go_sem, seval, reduceCtorEq, encF_eq]
  cases hfr : decide (nodesR 100 f ≤ 100) with
  | false =>
    try simp only [go_sem, seval, reduceCtorEq, hfr]
    repeat (first | refine WK.blockSeq ?_ | refine WK.blockCond ?_ | refine WK.blockReg ?_ | (refine WK.condT ?_ ?_; (focus (simp only [go_sem, seval, reduceCtorEq, hfr]; done))) | (refine WK.condF ?_ ?_; (focus (simp only [go_sem, seval, reduceCtorEq, hfr]; done))) | refine WK.seq ?_ | (refine WK.reg ?_; simp only [go_sem, seval, reduceCtorEq, hfr]) | (refine WK.skip ?_; simp only [go_sem, seval, reduceCtorEq, hfr]) | (refine WK.ret ?_; simp only [go_sem, seval, reduceCtorEq, hfr]) | (refine WK.exit ?_; simp only [go_sem, seval, reduceCtorEq, hfr]) | ((with_reducible refine And.intro ?_ ?_); omega) | omega)
    refine callK_pureL (hk) rfl (by simp only [go_sem, seval, reduceCtorEq]) (by simp only [go_sem, seval, reduceCtorEq]) ?_
    simp only [go_sem, seval, reduceCtorEq]
    try simp only [go_sem, seval, reduceCtorEq]
    repeat (first | refine WK.blockSeq ?_ | refine WK.blockCond ?_ | refine WK.blockReg ?_ | (refine WK.condT ?_ ?_; (focus (simp only [go_sem, seval, reduceCtorEq]; done))) | (refine WK.condF ?_ ?_; (focus (simp only [go_sem, seval, reduceCtorEq]; done))) | refine WK.seq ?_ | (refine WK.reg ?_; simp only [go_sem, seval, reduceCtorEq]) | (refine WK.skip ?_; simp only [go_sem, seval, reduceCtorEq]) | (refine WK.ret ?_; simp only [go_sem, seval, reduceCtorEq]) | (refine WK.exit ?_; simp only [go_sem, seval, reduceCtorEq]) | ((with_reducible refine And.intro ?_ ?_); omega) | omega)
    refine Cut.by' (by first | exact Nat.le_refl _ | (simp only [Sto.get_add, Sto.get_set, Sto.get_del, Sto.get_none, Sto.next_add, Sto.next_set, Sto.next_del, Sto.next_none]; omega)) (by first | exact Nat.le_refl _ | (simp only [Sto.get_add, Sto.get_set, Sto.get_del, Sto.get_none, Sto.next_add, Sto.next_set, Sto.next_del, Sto.next_none]; omega)) (fun i hi => ?_) (fun i o hi ho => ?_)
    · (try simp only [Sto.get_add, Sto.get_set, Sto.get_del, Sto.get_none, Sto.next_add, Sto.next_set, Sto.next_del, Sto.next_none] at hi ⊢); ((repeat' split) <;> first | exact .inl rfl | exact .inr rfl | omega | (simp_all; done))
    · (try simp only [Sto.get_add, Sto.get_set, Sto.get_del, Sto.get_none, Sto.next_add, Sto.next_set, Sto.next_del, Sto.next_none] at hi ho ⊢); ((repeat' split at ho) <;> (repeat' split) <;> first | (exact ⟨ho, .inl ho⟩) | (cases ho; done) | omega | (cases ho; refine ⟨rfl, .inl rfl⟩) | (cases ho; refine ⟨rfl, .inr ?_⟩; simp only [go_sem, seval, reduceCtorEq]; first | done | omega | (refine ⟨?_, ?_⟩ <;> omega)) | (simp_all; done))
  | true =>
  try simp only [go_sem, seval, reduceCtorEq, hfr, ctCells]
  repeat (first | refine WK.blockSeq ?_ | refine WK.blockCond ?_ | refine WK.blockReg ?_ | (refine WK.condT ?_ ?_; (focus (simp only [go_sem, seval, reduceCtorEq, hfr, ctCells]; done))) | (refine WK.condF ?_ ?_; (focus (simp only [go_sem, seval, reduceCtorEq, hfr, ctCells]; done))) | refine WK.seq ?_ | (refine WK.reg ?_; simp only [go_sem, seval, reduceCtorEq, hfr, ctCells]) | (refine WK.skip ?_; simp only [go_sem, seval, reduceCtorEq, hfr, ctCells]) | (refine WK.ret ?_; simp only [go_sem, seval, reduceCtorEq, hfr, ctCells]) | (refine WK.exit ?_; simp only [go_sem, seval, reduceCtorEq, hfr, ctCells]) | ((with_reducible refine And.intro ?_ ?_); omega) | omega)
  refine callK_pureL (wonX har c hs) rfl (by simp only [go_sem, seval, reduceCtorEq, ctCells]) (by simp only [go_sem, seval, reduceCtorEq, ctCells]) ?_
  simp only [go_sem, seval, reduceCtorEq, ctCells]
  try simp only [go_sem, seval, reduceCtorEq]
  repeat (first | refine WK.blockSeq ?_ | refine WK.blockCond ?_ | refine WK.blockReg ?_ | (refine WK.condT ?_ ?_; (focus (simp only [go_sem, seval, reduceCtorEq]; done))) | (refine WK.condF ?_ ?_; (focus (simp only [go_sem, seval, reduceCtorEq]; done))) | refine WK.seq ?_ | (refine WK.reg ?_; simp only [go_sem, seval, reduceCtorEq]) | (refine WK.skip ?_; simp only [go_sem, seval, reduceCtorEq]) | (refine WK.ret ?_; simp only [go_sem, seval, reduceCtorEq]) | (refine WK.exit ?_; simp only [go_sem, seval, reduceCtorEq]) | ((with_reducible refine And.intro ?_ ?_); omega) | omega)
  refine WK.drawF [⟨false, 0, 2⟩, ⟨false, 0, 3⟩, ⟨true, 0, 0⟩, ⟨true, 0, 0⟩, ⟨true, 0, 0⟩, ⟨true, 0, 0⟩] mixed (by kernel_rfl) ?_
  simp only [go_sem, seval, reduceCtorEq]
  have hfc' := hfc
  simp only [fewC, Bool.and_eq_true, decide_eq_true_eq] at hfc'
  obtain ⟨⟨⟨hje, hjs⟩, _⟩, _⟩ := hfc'
  try simp only [go_sem, seval, reduceCtorEq, encFs_len]
  repeat (first | refine WK.blockSeq ?_ | refine WK.blockCond ?_ | refine WK.blockReg ?_ | (refine WK.condT ?_ ?_; (focus (simp only [go_sem, seval, reduceCtorEq, encFs_len]; done))) | (refine WK.condF ?_ ?_; (focus (simp only [go_sem, seval, reduceCtorEq, encFs_len]; done))) | refine WK.seq ?_ | (refine WK.reg ?_; simp only [go_sem, seval, reduceCtorEq, encFs_len]) | (refine WK.skip ?_; simp only [go_sem, seval, reduceCtorEq, encFs_len]) | (refine WK.ret ?_; simp only [go_sem, seval, reduceCtorEq, encFs_len]) | (refine WK.exit ?_; simp only [go_sem, seval, reduceCtorEq, encFs_len]) | ((with_reducible refine And.intro ?_ ?_); omega) | omega)
  refine WK.draw [⟨false, 0, 0⟩, ⟨false, 0, 0⟩, ⟨false, 0, 0⟩, ⟨true, 0, 0⟩, ⟨false, 1, 0⟩, ⟨false, 0, 0⟩, ⟨true, 0, 0⟩, ⟨false, 0, 0⟩, ⟨true, 0, 0⟩] mixed (by kernel_rfl) ?_
  simp only [go_sem, seval, reduceCtorEq, encFs_len]
  refine appD_full (f := _) (by simp only [go_sem, seval, reduceCtorEq, encFs_len]; rfl) (by simp only [go_sem, seval, reduceCtorEq, encFs_len]; rfl)  ?_ (by simp only [go_sem, seval, reduceCtorEq, encFs_len]; rfl) (by simp only [go_sem, seval, reduceCtorEq, encFs_len]) ?_ (by kernel_rfl) (by simp only [go_sem, seval, reduceCtorEq, encFs_len, List.length_map, List.length_take, List.length_range, List.length_append, List.length_cons, List.length_nil]; omega) (by simp only [go_sem, seval, reduceCtorEq, encFs_len, List.length_map, List.length_take, List.length_range, List.length_append, List.length_cons, List.length_nil]; omega) ?_
  all_goals (try simp only [go_sem, seval, reduceCtorEq, encFs_len])
  all_goals (try (refine okes_map fun _ => ?_; simp only [go_sem, seval, reduceCtorEq, encFs_len]; done))
  refine appD_own (f := _) (by simp only [go_sem, seval, reduceCtorEq, encFs_len]; rfl) (by simp only [go_sem, seval, reduceCtorEq, encFs_len]; rfl) (by simp only [go_sem, seval, reduceCtorEq, encFs_len]; rfl) (by simp only [go_sem, seval, reduceCtorEq, encFs_len]) (by simp only [go_sem, seval, reduceCtorEq, encFs_len, List.length_map, List.length_take, List.length_range, List.length_append, List.length_cons, List.length_nil]; first | done | omega) ?_ (by simp only [go_sem, seval, reduceCtorEq, encFs_len]; rfl) (by simp only [go_sem, seval, reduceCtorEq, encFs_len]) ?_ (by kernel_rfl) (by simp only [go_sem, seval, reduceCtorEq, encFs_len, List.length_map, List.length_take, List.length_range, List.length_append, List.length_cons, List.length_nil]; omega) (by simp only [go_sem, seval, reduceCtorEq, encFs_len, List.length_map, List.length_take, List.length_range, List.length_append, List.length_cons, List.length_nil]; omega) ?_
  all_goals (try simp only [go_sem, seval, reduceCtorEq, encFs_len])
  all_goals (try (refine okes_map fun _ => ?_; simp only [go_sem, seval, reduceCtorEq, encFs_len]; done))
  refine WK.lessBox 3 (ctCells { c with je := c.je ++ [f] }) (by simp only [go_sem, seval, reduceCtorEq, encFs_len]; rfl) ?_ ?_
  · have e : encFs (c.je ++ [f]) = encFs c.je ++ [.agg [.int .i64 f.op, .int .i64 f.var, .list false (encFs f.args)]] := by rw [← encFs_app, encFs, encFs, encF_eq]
    simp only [e, ctCells]
    exact ⟨.refl _, .refl _, .refl _, .refl _, .refl _, .refl _, .refl _, .refl _, .refl _, .refl _, .refl _, .refl _, .refl _, .refl _, le_own _ _, .refl _, trivial⟩
  try simp only [go_sem, seval, reduceCtorEq, encFs_len, ctCells]
  repeat (first | refine WK.blockSeq ?_ | refine WK.blockCond ?_ | refine WK.blockReg ?_ | (refine WK.condT ?_ ?_; (focus (simp only [go_sem, seval, reduceCtorEq, encFs_len, ctCells]; done))) | (refine WK.condF ?_ ?_; (focus (simp only [go_sem, seval, reduceCtorEq, encFs_len, ctCells]; done))) | refine WK.seq ?_ | (refine WK.reg ?_; simp only [go_sem, seval, reduceCtorEq, encFs_len, ctCells]) | (refine WK.skip ?_; simp only [go_sem, seval, reduceCtorEq, encFs_len, ctCells]) | (refine WK.ret ?_; simp only [go_sem, seval, reduceCtorEq, encFs_len, ctCells]) | (refine WK.exit ?_; simp only [go_sem, seval, reduceCtorEq, encFs_len, ctCells]) | ((with_reducible refine And.intro ?_ ?_); omega) | omega)
  have hlen : c.js.length < 9223372036854775807 := by omega
  refine WK.joinA (T := Ct) [8, 9, 10, 11] [] (fun _ => []) (fun d => monoS c d f) (fun d => ShrtC d ∧ MonoOK c d) ?_ (fun d hd => ?_)
  · refine WK.cond _ (by simp only [go_sem, seval, reduceCtorEq, encFs_len]; rfl) (fun hpos => ?_) (fun hpos => ?_)
    · have hpos' : 0 < c.js.length := by simpa using hpos
      try simp only [go_sem, seval, reduceCtorEq, encFs_len]
      repeat (first | refine WK.blockSeq ?_ | refine WK.blockCond ?_ | refine WK.blockReg ?_ | (refine WK.condT ?_ ?_; (focus (simp only [go_sem, seval, reduceCtorEq, encFs_len]; done))) | (refine WK.condF ?_ ?_; (focus (simp only [go_sem, seval, reduceCtorEq, encFs_len]; done))) | refine WK.seq ?_ | (refine WK.reg ?_; simp only [go_sem, seval, reduceCtorEq, encFs_len]) | (refine WK.skip ?_; simp only [go_sem, seval, reduceCtorEq, encFs_len]) | (refine WK.ret ?_; simp only [go_sem, seval, reduceCtorEq, encFs_len]) | (refine WK.exit ?_; simp only [go_sem, seval, reduceCtorEq, encFs_len]) | ((with_reducible refine And.intro ?_ ?_); omega) | omega)
      have t1 := Int.lt_tmod_of_pos i (show (0 : Int) < (c.js.length : Int) by omega)
      have t2 := Int.tmod_lt_of_pos i (show (0 : Int) < (c.js.length : Int) by omega)
      generalize i.tmod (c.js.length : Int) = m at *
      obtain ⟨k, hk', hkl⟩ : ∃ k : Nat, (k : Int) = (if m < 0 then m + c.js.length else m) ∧ k < c.js.length := ⟨(if m < 0 then m + c.js.length else m).toNat, by split <;> omega, by split <;> omega⟩
      refine WK.joinB [3, 4, 7, 8, 9, 10, 11] [12] [.int .i64 k] (monoS c c f) ?_ ?_
      · simp only [go_sem, seval, reduceCtorEq, encFs_len]
        refine WK.cond _ (by simp only [go_sem, seval, reduceCtorEq, encFs_len]; rfl) (fun hm => ?_) (fun hm => ?_)
        · have hm' : m < 0 := by simpa using hm
          rw [if_pos hm'] at hk'
          have hw : IntKind.i64.wrap (m + (c.js.length : Int)) = (k : Int) := by rw [wrap_lt (by omega) (by omega)]; omega
          try simp only [go_sem, seval, reduceCtorEq, encFs_len, hw, monoS, ctCells]
          repeat (first | refine WK.blockSeq ?_ | refine WK.blockCond ?_ | refine WK.blockReg ?_ | (refine WK.condT ?_ ?_; (focus (simp only [go_sem, seval, reduceCtorEq, encFs_len, hw, monoS, ctCells]; done))) | (refine WK.condF ?_ ?_; (focus (simp only [go_sem, seval, reduceCtorEq, encFs_len, hw, monoS, ctCells]; done))) | refine WK.seq ?_ | (refine WK.reg ?_; simp only [go_sem, seval, reduceCtorEq, encFs_len, hw, monoS, ctCells]) | (refine WK.skip ?_; simp only [go_sem, seval, reduceCtorEq, encFs_len, hw, monoS, ctCells]) | (refine WK.ret ?_; simp only [go_sem, seval, reduceCtorEq, encFs_len, hw, monoS, ctCells]) | (refine WK.exit ?_; simp only [go_sem, seval, reduceCtorEq, encFs_len, hw, monoS, ctCells]) | ((with_reducible refine And.intro ?_ ?_); omega) | omega)
          trace_state
        · have hm' : ¬ m < 0 := by simpa using hm
          rw [if_neg hm'] at hk'
          try simp only [go_sem, seval, reduceCtorEq, encFs_len, hk', monoS, ctCells]
          repeat (first | refine WK.blockSeq ?_ | refine WK.blockCond ?_ | refine WK.blockReg ?_ | (refine WK.condT ?_ ?_; (focus (simp only [go_sem, seval, reduceCtorEq, encFs_len, hk', monoS, ctCells]; done))) | (refine WK.condF ?_ ?_; (focus (simp only [go_sem, seval, reduceCtorEq, encFs_len, hk', monoS, ctCells]; done))) | refine WK.seq ?_ | (refine WK.reg ?_; simp only [go_sem, seval, reduceCtorEq, encFs_len, hk', monoS, ctCells]) | (refine WK.skip ?_; simp only [go_sem, seval, reduceCtorEq, encFs_len, hk', monoS, ctCells]) | (refine WK.ret ?_; simp only [go_sem, seval, reduceCtorEq, encFs_len, hk', monoS, ctCells]) | (refine WK.exit ?_; simp only [go_sem, seval, reduceCtorEq, encFs_len, hk', monoS, ctCells]) | ((with_reducible refine And.intro ?_ ?_); omega) | omega)
          trace_state
      simp only [go_sem, seval, reduceCtorEq, encFs_len, monoS, ctCells]
      refine WK.draw [⟨false, 0, 0⟩, ⟨false, 0, 0⟩, ⟨false, 0, 0⟩, ⟨false, 0, 0⟩, ⟨false, 0, 0⟩, ⟨true, 0, 0⟩, ⟨false, 0, 0⟩, ⟨false, 1, 0⟩, ⟨false, 0, 0⟩, ⟨false, 0, 0⟩, ⟨false, 1, 0⟩, ⟨true, 0, 0⟩, ⟨false, 0, 0⟩, ⟨true, 0, 0⟩] mixed (by kernel_rfl) ?_
      simp only [go_sem, seval, reduceCtorEq, encFs_len]
      refine ⟨⟨by omega, by omega, by omega, encFs_cells3 _⟩, ?_⟩
      have hw1 : IntKind.i64.wrap ((k : Int) + 1) = ((k + 1 : Nat) : Int) := by rw [wrap_lt (by omega) (by omega)]; omega
      refine appD_full (f := _) (by simp only [go_sem, seval, reduceCtorEq, encFs_len, hw1, encFs_tk, encFs_dp, List.take_length]; rfl) (by simp only [go_sem, seval, reduceCtorEq, encFs_len, hw1, encFs_tk, encFs_dp, List.take_length]; rfl)  ?_ (by simp only [go_sem, seval, reduceCtorEq, encFs_len, hw1, encFs_tk, encFs_dp, List.take_length]; rfl) (by simp only [go_sem, seval, reduceCtorEq, encFs_len, hw1, encFs_tk, encFs_dp, List.take_length]) ?_ (by kernel_rfl) (by simp only [go_sem, seval, reduceCtorEq, encFs_len, hw1, encFs_tk, encFs_dp, List.take_length, List.length_map, List.length_take, List.length_range, List.length_append, List.length_cons, List.length_nil]; omega) (by simp only [go_sem, seval, reduceCtorEq, encFs_len, hw1, encFs_tk, encFs_dp, List.take_length, List.length_map, List.length_take, List.length_range, List.length_append, List.length_cons, List.length_nil]; omega) ?_
      all_goals (try simp only [go_sem, seval, reduceCtorEq, encFs_len, hw1, encFs_tk, encFs_dp, List.take_length])
      all_goals (try (refine okes_map fun _ => ?_; simp only [go_sem, seval, reduceCtorEq, encFs_len, hw1, encFs_tk, encFs_dp, List.take_length]; done))
      refine ⟨⟨by omega, by omega, encFs_cells3 _⟩, ⟨by omega, by omega, encFs_cells3 _⟩, ?_⟩
      have hb2 : (c.js.drop (k + 1)).length ≤ 20 := by simp; omega
      refine appD_own (f := _) (by simp only [go_sem, seval, reduceCtorEq, encFs_len, hw1, encFs_tk, encFs_dp, List.take_length]; rfl) (by simp only [go_sem, seval, reduceCtorEq, encFs_len, hw1, encFs_tk, encFs_dp, List.take_length]; rfl) (by simp only [go_sem, seval, reduceCtorEq, encFs_len, hw1, encFs_tk, encFs_dp, List.take_length]; rfl) (by simp only [go_sem, seval, reduceCtorEq, encFs_len, hw1, encFs_tk, encFs_dp, List.take_length]) (by simp only [go_sem, seval, reduceCtorEq, encFs_len, hw1, encFs_tk, encFs_dp, List.take_length, List.length_map, List.length_take, List.length_range, List.length_append, List.length_cons, List.length_nil]; first | done | omega) ?_ (by simp only [go_sem, seval, reduceCtorEq, encFs_len, hw1, encFs_tk, encFs_dp, List.take_length]; rfl) (by simp only [go_sem, seval, reduceCtorEq, encFs_len, hw1, encFs_tk, encFs_dp, List.take_length]) ?_ (by kernel_rfl) (by simp only [go_sem, seval, reduceCtorEq, encFs_len, hw1, encFs_tk, encFs_dp, List.take_length, List.length_map, List.length_take, List.length_range, List.length_append, List.length_cons, List.length_nil]; omega) (by simp only [go_sem, seval, reduceCtorEq, encFs_len, hw1, encFs_tk, encFs_dp, List.take_length, List.length_map, List.length_take, List.length_range, List.length_append, List.length_cons, List.length_nil]; omega) ?_
      all_goals (try simp only [go_sem, seval, reduceCtorEq, encFs_len, hw1, encFs_tk, encFs_dp, List.take_length])
      all_goals (try (refine okes_map fun _ => ?_; simp only [go_sem, seval, reduceCtorEq, encFs_len, hw1, encFs_tk, encFs_dp, List.take_length]; done))
      refine ⟨{ c with js := c.js.take k ++ c.js.drop (k + 1) }, ⟨⟨hs.ie, hs.is, hs.se, hs.ss, hs.je, shrtL_cut hs.js k, hs.jel, by simp; omega⟩, h3 hfc k hkl⟩, ?_⟩
      simp only [go_sem, seval, reduceCtorEq, encFs_len, hw1, encFs_tk, encFs_dp, List.take_length, monoS, ctCells]
      refine Cut.less 4 (ctCells { c with js := c.js.take k ++ c.js.drop (k + 1) }) (by simp only [go_sem, seval, reduceCtorEq, encFs_len, hw1, encFs_tk, encFs_dp, List.take_length]; rfl) ?_ ?_
      · simp only [ctCells, encFs_app]
        exact ⟨.refl _, .refl _, .refl _, .refl _, .refl _, .refl _, .refl _, .refl _, .refl _, .refl _, .refl _, .refl _, .refl _, .refl _, .refl _, le_own _ _, trivial⟩
      simp only [go_sem, seval, reduceCtorEq, encFs_len, hw1, encFs_tk, encFs_dp, List.take_length, ctCells]
      refine Cut.by' (by first | exact Nat.le_refl _ | (simp only [Sto.get_add, Sto.get_set, Sto.get_del, Sto.get_none, Sto.next_add, Sto.next_set, Sto.next_del, Sto.next_none]; omega)) (by first | exact Nat.le_refl _ | (simp only [Sto.get_add, Sto.get_set, Sto.get_del, Sto.get_none, Sto.next_add, Sto.next_set, Sto.next_del, Sto.next_none]; omega)) (fun i hi => ?_) (fun i o hi ho => ?_)
      · (try simp only [Sto.get_add, Sto.get_set, Sto.get_del, Sto.get_none, Sto.next_add, Sto.next_set, Sto.next_del, Sto.next_none] at hi ⊢); ((repeat' split) <;> first | exact .inl rfl | exact .inr rfl | omega | (simp_all; done))
      · (try simp only [Sto.get_add, Sto.get_set, Sto.get_del, Sto.get_none, Sto.next_add, Sto.next_set, Sto.next_del, Sto.next_none] at hi ho ⊢); ((repeat' split at ho) <;> (repeat' split) <;> first | (exact ⟨ho, .inl ho⟩) | (cases ho; done) | omega | (cases ho; refine ⟨rfl, .inl rfl⟩) | (cases ho; refine ⟨rfl, .inr ?_⟩; simp only [go_sem, seval, reduceCtorEq, encFs_len, hw1, encFs_tk, encFs_dp, List.take_length]; first | done | omega | (refine ⟨?_, ?_⟩ <;> omega)) | (simp_all; done))
    · try simp only [go_sem, seval, reduceCtorEq, encFs_len]
      repeat (first | refine WK.blockSeq ?_ | refine WK.blockCond ?_ | refine WK.blockReg ?_ | (refine WK.condT ?_ ?_; (focus (simp only [go_sem, seval, reduceCtorEq, encFs_len]; done))) | (refine WK.condF ?_ ?_; (focus (simp only [go_sem, seval, reduceCtorEq, encFs_len]; done))) | refine WK.seq ?_ | (refine WK.reg ?_; simp only [go_sem, seval, reduceCtorEq, encFs_len]) | (refine WK.skip ?_; simp only [go_sem, seval, reduceCtorEq, encFs_len]) | (refine WK.ret ?_; simp only [go_sem, seval, reduceCtorEq, encFs_len]) | (refine WK.exit ?_; simp only [go_sem, seval, reduceCtorEq, encFs_len]) | ((with_reducible refine And.intro ?_ ?_); omega) | omega)
      refine ⟨c, ⟨hs, h2 hfc⟩, ?_⟩
      simp only [go_sem, seval, reduceCtorEq, encFs_len, monoS, ctCells]
  · obtain ⟨sd, hm⟩ := hd
    simp only [go_sem, seval, reduceCtorEq, encFs_len, ct_len, ct_take, monoS]
    have hL : [AV.agg (ctCells { c with je := c.je ++ [f] }), AV.agg (ctCells d)] = [{ c with je := c.je ++ [f] }, d].map encC := rfl
    have hL2 : ∀ x ∈ [{ c with je := c.je ++ [f] }, d], ShrtC x ∧ MonoOK c x := by
      intro x hx
      rcases List.mem_cons.1 hx with rfl | hx
      · refine ⟨⟨hs.ie, hs.is, hs.se, hs.ss, ?_, hs.js, ?_, hs.jsl⟩, h1 hfc⟩
        · exact shrtL_snoc hs.je hf
        · simp; omega
      · rw [List.mem_singleton] at hx; subst hx; exact ⟨sd, hm⟩
    have hL3 : [{ c with je := c.je ++ [f] }, d].length = 2 := rfl
    generalize [{ c with je := c.je ++ [f] }, d] = L at hL hL2 hL3
    try simp only [go_sem, seval, reduceCtorEq, encFs_len, ct_len, ct_take, List.length_map, hL3, hL]
    repeat (first | refine WK.blockSeq ?_ | refine WK.blockCond ?_ | refine WK.blockReg ?_ | (refine WK.condT ?_ ?_; (focus (simp only [go_sem, seval, reduceCtorEq, encFs_len, ct_len, ct_take, List.length_map, hL3, hL]; done))) | (refine WK.condF ?_ ?_; (focus (simp only [go_sem, seval, reduceCtorEq, encFs_len, ct_len, ct_take, List.length_map, hL3, hL]; done))) | refine WK.seq ?_ | (refine WK.reg ?_; simp only [go_sem, seval, reduceCtorEq, encFs_len, ct_len, ct_take, List.length_map, hL3, hL]) | (refine WK.skip ?_; simp only [go_sem, seval, reduceCtorEq, encFs_len, ct_len, ct_take, List.length_map, hL3, hL]) | (refine WK.ret ?_; simp only [go_sem, seval, reduceCtorEq, encFs_len, ct_len, ct_take, List.length_map, hL3, hL]) | (refine WK.exit ?_; simp only [go_sem, seval, reduceCtorEq, encFs_len, ct_len, ct_take, List.length_map, hL3, hL]) | ((with_reducible refine And.intro ?_ ?_); omega) | omega)
    have hone : ∀ x : Ct, (ctCells x).all AV.one = true := fun x => rfl
    refine WK.rangeX (2) [8, 9, 74] [] (fun i => []) (fun i => monoS c d f) (by omega) (by decide) (by simp only [go_sem, seval, reduceCtorEq, encFs_len, ct_len, ct_take, List.length_map, hL3, monoS]) (by simp only [go_sem, seval, reduceCtorEq, encFs_len, ct_len, ct_take, List.length_map, hL3, monoS]) (by simp only [go_sem, seval, reduceCtorEq, encFs_len, ct_len, ct_take, List.length_map, hL3, monoS, List.take_zero]) (by first | rfl | (simp only [go_sem, seval, reduceCtorEq, encFs_len, ct_len, ct_take, List.length_map, hL3, monoS]; done) | (refine Sto.ext' (by simp only [go_sem, seval, reduceCtorEq, encFs_len, ct_len, ct_take, List.length_map, hL3, monoS]) (fun i => ?_); simp only [go_sem, seval, reduceCtorEq, encFs_len, ct_len, ct_take, List.length_map, hL3, monoS]; repeat' split; all_goals (first | rfl | omega | simp_all))) ?_ ?_
    · intro j hj
      have hjL : j < L.length := by omega
      obtain ⟨sj, mj⟩ := hL2 L[j] (List.getElem_mem hjL)
      have gj := map_getD encC L j hjL
      simp only [go_sem, seval, reduceCtorEq, encFs_len, ct_len, ct_take, List.length_map, hL3, gj, encC_eq, hone, monoS]
      try simp only [go_sem, seval, reduceCtorEq, encFs_len, ct_len, ct_take, List.length_map, hL3, gj, encC_eq, hone]
      repeat (first | refine WK.blockSeq ?_ | refine WK.blockCond ?_ | refine WK.blockReg ?_ | (refine WK.condT ?_ ?_; (focus (simp only [go_sem, seval, reduceCtorEq, encFs_len, ct_len, ct_take, List.length_map, hL3, gj, encC_eq, hone]; done))) | (refine WK.condF ?_ ?_; (focus (simp only [go_sem, seval, reduceCtorEq, encFs_len, ct_len, ct_take, List.length_map, hL3, gj, encC_eq, hone]; done))) | refine WK.seq ?_ | (refine WK.reg ?_; simp only [go_sem, seval, reduceCtorEq, encFs_len, ct_len, ct_take, List.length_map, hL3, gj, encC_eq, hone]) | (refine WK.skip ?_; simp only [go_sem, seval, reduceCtorEq, encFs_len, ct_len, ct_take, List.length_map, hL3, gj, encC_eq, hone]) | (refine WK.ret ?_; simp only [go_sem, seval, reduceCtorEq, encFs_len, ct_len, ct_take, List.length_map, hL3, gj, encC_eq, hone]) | (refine WK.exit ?_; simp only [go_sem, seval, reduceCtorEq, encFs_len, ct_len, ct_take, List.length_map, hL3, gj, encC_eq, hone]) | ((with_reducible refine And.intro ?_ ?_); omega) | omega)
      refine callK_pureL (wonX har L[j] sj) rfl (by simp only [go_sem, seval, reduceCtorEq, encFs_len, ct_len, ct_take, List.length_map, hL3, gj, encC_eq, hone]) (by simp only [go_sem, seval, reduceCtorEq, encFs_len, ct_len, ct_take, List.length_map, hL3, gj, encC_eq, hone]) ?_
      simp only [go_sem, seval, reduceCtorEq, encFs_len, ct_len, ct_take, List.length_map, hL3, gj, encC_eq, hone]
      generalize L[j] = x at *
      have lc := wonL_len c
      obtain e1 | e1 := wonE_or c
      · obtain e2 | e2 := wonE_or x
        · obtain ⟨m1, m2⟩ := mj e1 e2
          try simp only [go_sem, seval, reduceCtorEq, encFs_len, ct_len, ct_take, List.length_map, hL3, gj, encC_eq, hone, e1, e2, m1, bne_self_eq_false]
          repeat (first | refine WK.blockSeq ?_ | refine WK.blockCond ?_ | refine WK.blockReg ?_ | (refine WK.condT ?_ ?_; (focus (simp only [go_sem, seval, reduceCtorEq, encFs_len, ct_len, ct_take, List.length_map, hL3, gj, encC_eq, hone, e1, e2, m1, bne_self_eq_false]; done))) | (refine WK.condF ?_ ?_; (focus (simp only [go_sem, seval, reduceCtorEq, encFs_len, ct_len, ct_take, List.length_map, hL3, gj, encC_eq, hone, e1, e2, m1, bne_self_eq_false]; done))) | refine WK.seq ?_ | (refine WK.reg ?_; simp only [go_sem, seval, reduceCtorEq, encFs_len, ct_len, ct_take, List.length_map, hL3, gj, encC_eq, hone, e1, e2, m1, bne_self_eq_false]) | (refine WK.skip ?_; simp only [go_sem, seval, reduceCtorEq, encFs_len, ct_len, ct_take, List.length_map, hL3, gj, encC_eq, hone, e1, e2, m1, bne_self_eq_false]) | (refine WK.ret ?_; simp only [go_sem, seval, reduceCtorEq, encFs_len, ct_len, ct_take, List.length_map, hL3, gj, encC_eq, hone, e1, e2, m1, bne_self_eq_false]) | (refine WK.exit ?_; simp only [go_sem, seval, reduceCtorEq, encFs_len, ct_len, ct_take, List.length_map, hL3, gj, encC_eq, hone, e1, e2, m1, bne_self_eq_false]) | ((with_reducible refine And.intro ?_ ?_); omega) | omega)
          refine WK.rangeX ((wonL x).length) [8, 9, 15, 74, 75, 76] [] (fun i => []) (fun i => (((((((Sto.none.add (.box (ctCells c))).add (.box [.int .i64 f.op, .int .i64 f.var, .list false (encFs f.args)])).add (.box (ctCells c))).add (.box (ctCells { c with je := c.je ++ [f] }))).add (.box (ctCells d))).add (.tok 3 (c.je.length + 1)))).add (.box (ctCells x))) (by omega) (by decide) (by simp only [go_sem, seval, reduceCtorEq, encFs_len, ct_len, ct_take, List.length_map, hL3, gj, encC_eq, hone, e1, e2, m1, bne_self_eq_false]) (by simp only [go_sem, seval, reduceCtorEq, encFs_len, ct_len, ct_take, List.length_map, hL3, gj, encC_eq, hone, e1, e2, m1, bne_self_eq_false]) (by simp only [go_sem, seval, reduceCtorEq, encFs_len, ct_len, ct_take, List.length_map, hL3, gj, encC_eq, hone, e1, e2, m1, bne_self_eq_false, List.take_zero]) (by first | rfl | (simp only [go_sem, seval, reduceCtorEq, encFs_len, ct_len, ct_take, List.length_map, hL3, gj, encC_eq, hone, e1, e2, m1, bne_self_eq_false]; done) | (refine Sto.ext' (by simp only [go_sem, seval, reduceCtorEq, encFs_len, ct_len, ct_take, List.length_map, hL3, gj, encC_eq, hone, e1, e2, m1, bne_self_eq_false]) (fun i => ?_); simp only [go_sem, seval, reduceCtorEq, encFs_len, ct_len, ct_take, List.length_map, hL3, gj, encC_eq, hone, e1, e2, m1, bne_self_eq_false]; repeat' split; all_goals (first | rfl | omega | simp_all))) ?_ ?_
          · intro l hl
            have q1 := map_getD AV.bool (wonL c) l (by omega)
            have q2 := map_getD AV.bool (wonL x) l hl
            have q3 := m2 l
            rw [List.getD_eq_getElem?_getD, List.getD_eq_getElem?_getD, List.getElem?_eq_getElem (by omega), List.getElem?_eq_getElem hl] at q3
            simp only [Option.getD_some] at q3
            cases q4 : (wonL c)[l]'(by omega) with
            | false =>
              simp only [go_sem, seval, reduceCtorEq, encFs_len, ct_len, ct_take, List.length_map, hL3, gj, encC_eq, hone, e1, e2, m1, bne_self_eq_false, q1, q2, q4]
              try simp only [go_sem, seval, reduceCtorEq, encFs_len, ct_len, ct_take, List.length_map, hL3, gj, encC_eq, hone, e1, e2, m1, bne_self_eq_false, q1, q2, q4]
              repeat (first | refine WK.blockSeq ?_ | refine WK.blockCond ?_ | refine WK.blockReg ?_ | (refine WK.condT ?_ ?_; (focus (simp only [go_sem, seval, reduceCtorEq, encFs_len, ct_len, ct_take, List.length_map, hL3, gj, encC_eq, hone, e1, e2, m1, bne_self_eq_false, q1, q2, q4]; done))) | (refine WK.condF ?_ ?_; (focus (simp only [go_sem, seval, reduceCtorEq, encFs_len, ct_len, ct_take, List.length_map, hL3, gj, encC_eq, hone, e1, e2, m1, bne_self_eq_false, q1, q2, q4]; done))) | refine WK.seq ?_ | (refine WK.reg ?_; simp only [go_sem, seval, reduceCtorEq, encFs_len, ct_len, ct_take, List.length_map, hL3, gj, encC_eq, hone, e1, e2, m1, bne_self_eq_false, q1, q2, q4]) | (refine WK.skip ?_; simp only [go_sem, seval, reduceCtorEq, encFs_len, ct_len, ct_take, List.length_map, hL3, gj, encC_eq, hone, e1, e2, m1, bne_self_eq_false, q1, q2, q4]) | (refine WK.ret ?_; simp only [go_sem, seval, reduceCtorEq, encFs_len, ct_len, ct_take, List.length_map, hL3, gj, encC_eq, hone, e1, e2, m1, bne_self_eq_false, q1, q2, q4]) | (refine WK.exit ?_; simp only [go_sem, seval, reduceCtorEq, encFs_len, ct_len, ct_take, List.length_map, hL3, gj, encC_eq, hone, e1, e2, m1, bne_self_eq_false, q1, q2, q4]) | ((with_reducible refine And.intro ?_ ?_); omega) | omega)
            | true =>
              have q5 := q3 q4
              simp only [go_sem, seval, reduceCtorEq, encFs_len, ct_len, ct_take, List.length_map, hL3, gj, encC_eq, hone, e1, e2, m1, bne_self_eq_false, q1, q2, q4, q5]
              try simp only [go_sem, seval, reduceCtorEq, encFs_len, ct_len, ct_take, List.length_map, hL3, gj, encC_eq, hone, e1, e2, m1, bne_self_eq_false, q1, q2, q4, q5]
              repeat (first | refine WK.blockSeq ?_ | refine WK.blockCond ?_ | refine WK.blockReg ?_ | (refine WK.condT ?_ ?_; (focus (simp only [go_sem, seval, reduceCtorEq, encFs_len, ct_len, ct_take, List.length_map, hL3, gj, encC_eq, hone, e1, e2, m1, bne_self_eq_false, q1, q2, q4, q5]; done))) | (refine WK.condF ?_ ?_; (focus (simp only [go_sem, seval, reduceCtorEq, encFs_len, ct_len, ct_take, List.length_map, hL3, gj, encC_eq, hone, e1, e2, m1, bne_self_eq_false, q1, q2, q4, q5]; done))) | refine WK.seq ?_ | (refine WK.reg ?_; simp only [go_sem, seval, reduceCtorEq, encFs_len, ct_len, ct_take, List.length_map, hL3, gj, encC_eq, hone, e1, e2, m1, bne_self_eq_false, q1, q2, q4, q5]) | (refine WK.skip ?_; simp only [go_sem, seval, reduceCtorEq, encFs_len, ct_len, ct_take, List.length_map, hL3, gj, encC_eq, hone, e1, e2, m1, bne_self_eq_false, q1, q2, q4, q5]) | (refine WK.ret ?_; simp only [go_sem, seval, reduceCtorEq, encFs_len, ct_len, ct_take, List.length_map, hL3, gj, encC_eq, hone, e1, e2, m1, bne_self_eq_false, q1, q2, q4, q5]) | (refine WK.exit ?_; simp only [go_sem, seval, reduceCtorEq, encFs_len, ct_len, ct_take, List.length_map, hL3, gj, encC_eq, hone, e1, e2, m1, bne_self_eq_false, q1, q2, q4, q5]) | ((with_reducible refine And.intro ?_ ?_); omega) | omega)
          · simp only [go_sem, seval, reduceCtorEq, encFs_len, ct_len, ct_take, List.length_map, hL3, gj, encC_eq, hone, e1, e2, m1, bne_self_eq_false]
            try simp only [go_sem, seval, reduceCtorEq, encFs_len, ct_len, ct_take, List.length_map, hL3, gj, encC_eq, hone, e1, e2, m1, bne_self_eq_false]
            repeat (first | refine WK.blockSeq ?_ | refine WK.blockCond ?_ | refine WK.blockReg ?_ | (refine WK.condT ?_ ?_; (focus (simp only [go_sem, seval, reduceCtorEq, encFs_len, ct_len, ct_take, List.length_map, hL3, gj, encC_eq, hone, e1, e2, m1, bne_self_eq_false]; done))) | (refine WK.condF ?_ ?_; (focus (simp only [go_sem, seval, reduceCtorEq, encFs_len, ct_len, ct_take, List.length_map, hL3, gj, encC_eq, hone, e1, e2, m1, bne_self_eq_false]; done))) | refine WK.seq ?_ | (refine WK.reg ?_; simp only [go_sem, seval, reduceCtorEq, encFs_len, ct_len, ct_take, List.length_map, hL3, gj, encC_eq, hone, e1, e2, m1, bne_self_eq_false]) | (refine WK.skip ?_; simp only [go_sem, seval, reduceCtorEq, encFs_len, ct_len, ct_take, List.length_map, hL3, gj, encC_eq, hone, e1, e2, m1, bne_self_eq_false]) | (refine WK.ret ?_; simp only [go_sem, seval, reduceCtorEq, encFs_len, ct_len, ct_take, List.length_map, hL3, gj, encC_eq, hone, e1, e2, m1, bne_self_eq_false]) | (refine WK.exit ?_; simp only [go_sem, seval, reduceCtorEq, encFs_len, ct_len, ct_take, List.length_map, hL3, gj, encC_eq, hone, e1, e2, m1, bne_self_eq_false]) | ((with_reducible refine And.intro ?_ ?_); omega) | omega)
            refine Cut.by' (by first | exact Nat.le_refl _ | (simp only [Sto.get_add, Sto.get_set, Sto.get_del, Sto.get_none, Sto.next_add, Sto.next_set, Sto.next_del, Sto.next_none]; omega)) (by first | exact Nat.le_refl _ | (simp only [Sto.get_add, Sto.get_set, Sto.get_del, Sto.get_none, Sto.next_add, Sto.next_set, Sto.next_del, Sto.next_none]; omega)) (fun i hi => ?_) (fun i o hi ho => ?_)
            · (try simp only [Sto.get_add, Sto.get_set, Sto.get_del, Sto.get_none, Sto.next_add, Sto.next_set, Sto.next_del, Sto.next_none] at hi ⊢); ((repeat' split) <;> first | exact .inl rfl | exact .inr rfl | omega | (simp_all; done))
            · (try simp only [Sto.get_add, Sto.get_set, Sto.get_del, Sto.get_none, Sto.next_add, Sto.next_set, Sto.next_del, Sto.next_none] at hi ho ⊢); ((repeat' split at ho) <;> (repeat' split) <;> first | (exact ⟨ho, .inl ho⟩) | (cases ho; done) | omega | (cases ho; refine ⟨rfl, .inl rfl⟩) | (cases ho; refine ⟨rfl, .inr ?_⟩; simp only [go_sem, seval, reduceCtorEq, encFs_len, ct_len, ct_take, List.length_map, hL3, gj, encC_eq, hone, e1, e2, m1, bne_self_eq_false]; first | done | omega | (refine ⟨?_, ?_⟩ <;> omega)) | (simp_all; done))
        · try simp only [go_sem, seval, reduceCtorEq, encFs_len, ct_len, ct_take, List.length_map, hL3, gj, encC_eq, hone, e1, e2]
          repeat (first | refine WK.blockSeq ?_ | refine WK.blockCond ?_ | refine WK.blockReg ?_ | (refine WK.condT ?_ ?_; (focus (simp only [go_sem, seval, reduceCtorEq, encFs_len, ct_len, ct_take, List.length_map, hL3, gj, encC_eq, hone, e1, e2]; done))) | (refine WK.condF ?_ ?_; (focus (simp only [go_sem, seval, reduceCtorEq, encFs_len, ct_len, ct_take, List.length_map, hL3, gj, encC_eq, hone, e1, e2]; done))) | refine WK.seq ?_ | (refine WK.reg ?_; simp only [go_sem, seval, reduceCtorEq, encFs_len, ct_len, ct_take, List.length_map, hL3, gj, encC_eq, hone, e1, e2]) | (refine WK.skip ?_; simp only [go_sem, seval, reduceCtorEq, encFs_len, ct_len, ct_take, List.length_map, hL3, gj, encC_eq, hone, e1, e2]) | (refine WK.ret ?_; simp only [go_sem, seval, reduceCtorEq, encFs_len, ct_len, ct_take, List.length_map, hL3, gj, encC_eq, hone, e1, e2]) | (refine WK.exit ?_; simp only [go_sem, seval, reduceCtorEq, encFs_len, ct_len, ct_take, List.length_map, hL3, gj, encC_eq, hone, e1, e2]) | ((with_reducible refine And.intro ?_ ?_); omega) | omega)
          refine Cut.by' (by first | exact Nat.le_refl _ | (simp only [Sto.get_add, Sto.get_set, Sto.get_del, Sto.get_none, Sto.next_add, Sto.next_set, Sto.next_del, Sto.next_none]; omega)) (by first | exact Nat.le_refl _ | (simp only [Sto.get_add, Sto.get_set, Sto.get_del, Sto.get_none, Sto.next_add, Sto.next_set, Sto.next_del, Sto.next_none]; omega)) (fun i hi => ?_) (fun i o hi ho => ?_)
          · (try simp only [Sto.get_add, Sto.get_set, Sto.get_del, Sto.get_none, Sto.next_add, Sto.next_set, Sto.next_del, Sto.next_none] at hi ⊢); ((repeat' split) <;> first | exact .inl rfl | exact .inr rfl | omega | (simp_all; done))
          · (try simp only [Sto.get_add, Sto.get_set, Sto.get_del, Sto.get_none, Sto.next_add, Sto.next_set, Sto.next_del, Sto.next_none] at hi ho ⊢); ((repeat' split at ho) <;> (repeat' split) <;> first | (exact ⟨ho, .inl ho⟩) | (cases ho; done) | omega | (cases ho; refine ⟨rfl, .inl rfl⟩) | (cases ho; refine ⟨rfl, .inr ?_⟩; simp only [go_sem, seval, reduceCtorEq, encFs_len, ct_len, ct_take, List.length_map, hL3, gj, encC_eq, hone]; first | done | omega | (refine ⟨?_, ?_⟩ <;> omega)) | (simp_all; done))
      · try simp only [go_sem, seval, reduceCtorEq, encFs_len, ct_len, ct_take, List.length_map, hL3, gj, encC_eq, hone, e1]
        repeat (first | refine WK.blockSeq ?_ | refine WK.blockCond ?_ | refine WK.blockReg ?_ | (refine WK.condT ?_ ?_; (focus (simp only [go_sem, seval, reduceCtorEq, encFs_len, ct_len, ct_take, List.length_map, hL3, gj, encC_eq, hone, e1]; done))) | (refine WK.condF ?_ ?_; (focus (simp only [go_sem, seval, reduceCtorEq, encFs_len, ct_len, ct_take, List.length_map, hL3, gj, encC_eq, hone, e1]; done))) | refine WK.seq ?_ | (refine WK.reg ?_; simp only [go_sem, seval, reduceCtorEq, encFs_len, ct_len, ct_take, List.length_map, hL3, gj, encC_eq, hone, e1]) | (refine WK.skip ?_; simp only [go_sem, seval, reduceCtorEq, encFs_len, ct_len, ct_take, List.length_map, hL3, gj, encC_eq, hone, e1]) | (refine WK.ret ?_; simp only [go_sem, seval, reduceCtorEq, encFs_len, ct_len, ct_take, List.length_map, hL3, gj, encC_eq, hone, e1]) | (refine WK.exit ?_; simp only [go_sem, seval, reduceCtorEq, encFs_len, ct_len, ct_take, List.length_map, hL3, gj, encC_eq, hone, e1]) | ((with_reducible refine And.intro ?_ ?_); omega) | omega)
        refine Cut.by' (by first | exact Nat.le_refl _ | (simp only [Sto.get_add, Sto.get_set, Sto.get_del, Sto.get_none, Sto.next_add, Sto.next_set, Sto.next_del, Sto.next_none]; omega)) (by first | exact Nat.le_refl _ | (simp only [Sto.get_add, Sto.get_set, Sto.get_del, Sto.get_none, Sto.next_add, Sto.next_set, Sto.next_del, Sto.next_none]; omega)) (fun i hi => ?_) (fun i o hi ho => ?_)
        · (try simp only [Sto.get_add, Sto.get_set, Sto.get_del, Sto.get_none, Sto.next_add, Sto.next_set, Sto.next_del, Sto.next_none] at hi ⊢); ((repeat' split) <;> first | exact .inl rfl | exact .inr rfl | omega | (simp_all; done))
        · (try simp only [Sto.get_add, Sto.get_set, Sto.get_del, Sto.get_none, Sto.next_add, Sto.next_set, Sto.next_del, Sto.next_none] at hi ho ⊢); ((repeat' split at ho) <;> (repeat' split) <;> first | (exact ⟨ho, .inl ho⟩) | (cases ho; done) | omega | (cases ho; refine ⟨rfl, .inl rfl⟩) | (cases ho; refine ⟨rfl, .inr ?_⟩; simp only [go_sem, seval, reduceCtorEq, encFs_len, ct_len, ct_take, List.length_map, hL3, gj, encC_eq, hone]; first | done | omega | (refine ⟨?_, ?_⟩ <;> omega)) | (simp_all; done))
    · simp only [go_sem, seval, reduceCtorEq, encFs_len, ct_len, ct_take, List.length_map, hL3]
      try simp only [go_sem, seval, reduceCtorEq, encFs_len, ct_len, ct_take, List.length_map, hL3]
      repeat (first | refine WK.blockSeq ?_ | refine WK.blockCond ?_ | refine WK.blockReg ?_ | (refine WK.condT ?_ ?_; (focus (simp only [go_sem, seval, reduceCtorEq, encFs_len, ct_len, ct_take, List.length_map, hL3]; done))) | (refine WK.condF ?_ ?_; (focus (simp only [go_sem, seval, reduceCtorEq, encFs_len, ct_len, ct_take, List.length_map, hL3]; done))) | refine WK.seq ?_ | (refine WK.reg ?_; simp only [go_sem, seval, reduceCtorEq, encFs_len, ct_len, ct_take, List.length_map, hL3]) | (refine WK.skip ?_; simp only [go_sem, seval, reduceCtorEq, encFs_len, ct_len, ct_take, List.length_map, hL3]) | (refine WK.ret ?_; simp only [go_sem, seval, reduceCtorEq, encFs_len, ct_len, ct_take, List.length_map, hL3]) | (refine WK.exit ?_; simp only [go_sem, seval, reduceCtorEq, encFs_len, ct_len, ct_take, List.length_map, hL3]) | ((with_reducible refine And.intro ?_ ?_); omega) | omega)
      refine callK_pureL (hk) rfl (by simp only [go_sem, seval, reduceCtorEq, encFs_len, ct_len, ct_take, List.length_map, hL3]) (by simp only [go_sem, seval, reduceCtorEq, encFs_len, ct_len, ct_take, List.length_map, hL3]) ?_
      simp only [go_sem, seval, reduceCtorEq, encFs_len, ct_len, ct_take, List.length_map, hL3]
      try simp only [go_sem, seval, reduceCtorEq, encFs_len, ct_len, ct_take, List.length_map, hL3]
      repeat (first | refine WK.blockSeq ?_ | refine WK.blockCond ?_ | refine WK.blockReg ?_ | (refine WK.condT ?_ ?_; (focus (simp only [go_sem, seval, reduceCtorEq, encFs_len, ct_len, ct_take, List.length_map, hL3]; done))) | (refine WK.condF ?_ ?_; (focus (simp only [go_sem, seval, reduceCtorEq, encFs_len, ct_len, ct_take, List.length_map, hL3]; done))) | refine WK.seq ?_ | (refine WK.reg ?_; simp only [go_sem, seval, reduceCtorEq, encFs_len, ct_len, ct_take, List.length_map, hL3]) | (refine WK.skip ?_; simp only [go_sem, seval, reduceCtorEq, encFs_len, ct_len, ct_take, List.length_map, hL3]) | (refine WK.ret ?_; simp only [go_sem, seval, reduceCtorEq, encFs_len, ct_len, ct_take, List.length_map, hL3]) | (refine WK.exit ?_; simp only [go_sem, seval, reduceCtorEq, encFs_len, ct_len, ct_take, List.length_map, hL3]) | ((with_reducible refine And.intro ?_ ?_); omega) | omega)
      refine Cut.by' (by first | exact Nat.le_refl _ | (simp only [Sto.get_add, Sto.get_set, Sto.get_del, Sto.get_none, Sto.next_add, Sto.next_set, Sto.next_del, Sto.next_none]; omega)) (by first | exact Nat.le_refl _ | (simp only [Sto.get_add, Sto.get_set, Sto.get_del, Sto.get_none, Sto.next_add, Sto.next_set, Sto.next_del, Sto.next_none]; omega)) (fun i hi => ?_) (fun i o hi ho => ?_)
      · (try simp only [Sto.get_add, Sto.get_set, Sto.get_del, Sto.get_none, Sto.next_add, Sto.next_set, Sto.next_del, Sto.next_none] at hi ⊢); ((repeat' split) <;> first | exact .inl rfl | exact .inr rfl | omega | (simp_all; done))
      · (try simp only [Sto.get_add, Sto.get_set, Sto.get_del, Sto.get_none, Sto.next_add, Sto.next_set, Sto.next_del, Sto.next_none] at hi ho ⊢); ((repeat' split at ho) <;> (repeat' split) <;> first | (exact ⟨ho, .inl ho⟩) | (cases ho; done) | omega | (cases ho; refine ⟨rfl, .inl rfl⟩) | (cases ho; refine ⟨rfl, .inr ?_⟩; simp only [go_sem, seval, reduceCtorEq, encFs_len, ct_len, ct_take, List.length_map, hL3]; first | done | omega | (refine ⟨?_, ?_⟩ <;> omega)) | (simp_all; done))
end
end Go.Sx
