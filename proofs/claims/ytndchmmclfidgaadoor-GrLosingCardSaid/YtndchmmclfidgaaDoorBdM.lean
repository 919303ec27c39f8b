import Derived.Test.YtndchmmclfidgaaDoorBdC
import Derived.Test.YtndchmmclfidgaaDoorRfG
set_option maxRecDepth 100000
set_option linter.unusedSimpArgs false
set_option linter.unusedVariables false
set_option linter.unnecessarySimpa false
namespace Go.Sx
open Go Go.Lg Go.Proofs Go.ChangeShapes Go.WideShapes Go.RowKit
open Go.Proofs.YtndchmmclfidgaaDoor
/-! ## Machines, as they come in -/
section
variable {H : Type} {enc : TypeId × Value → H} {W : World} {spare : Nat → Bool} {held : Bool}
theorem rd_int (m : Nat) (cs : List Value) (x : DataW H × List MemPlace) (h : DataW.trod enc Tryd.prog W 0 spare held m 3 cs = some x) (hw : Wt 3 x.1) : ∃ k : Int, True ∧ Fits (G0 W) (AV.int .i64 k).cells cs := by
  obtain ⟨k, rfl⟩ := trod_i64 h
  refine ⟨k, trivial, rfl, fun i a v ha hv => ?_⟩
  match i with
  | 0 => cases ha; cases hv; exact .int _ _
  | i + 1 => simp [AV.cells] at ha
theorem rd_ints (m : Nat) (cs : List Value) (x : DataW H × List MemPlace) (h : DataW.trod enc Tryd.prog W 0 spare held m 69 cs = some x) (hw : Wt 69 x.1) : ∃ l : List Int, l.length < 4611686018427387904 ∧ Fits (G0 W) (intL l).cells cs := by
  obtain ⟨l, v, e, hq, hb, hr⟩ := rd_slice (ts := 69) (e := 3) (n := 1) Tryd.underlying69 (by kernel_rfl) (by decide) (fun k => AV.int .i64 k) (fun _ => True) (fun _ => rfl) rd_int m cs x h hw
  have b3 : Tryd.prog.bytesOf 3 = 8 := by kernel_rfl
  rw [b3] at hb
  refine ⟨l, by unfold reachBytes at hb; omega, ?_⟩
  subst e
  refine ⟨rfl, fun i a u ha hu => ?_⟩
  match i with
  | 0 => cases ha; cases hu; rw [intL_eq]; exact hr
  | i + 1 => simp [intL, AV.cells] at ha
theorem rd_intss (m : Nat) (cs : List Value) (x : DataW H × List MemPlace) (h : DataW.trod enc Tryd.prog W 0 spare held m 40 cs = some x) (hw : Wt 40 x.1) : ∃ (l : List (List Int)) (v : Value), cs = [v] ∧ l.length < 4611686018427387904 ∧ (∀ r ∈ l, r.length < 4611686018427387904) ∧ Rep (G0 W) (.list false (l.map intL)) v := by
  obtain ⟨l, v, e, hq, hb, hr⟩ := rd_slice (ts := 40) (e := 69) (n := 1) Tryd.underlying40 (by kernel_rfl) (by decide) intL (fun l => l.length < 4611686018427387904) (fun _ => rfl) rd_ints m cs x h hw
  have b3 : Tryd.prog.bytesOf 69 = 24 := by kernel_rfl
  rw [b3] at hb
  exact ⟨l, v, e, by unfold reachBytes at hb; omega, hq, hr⟩
structure McB (m : Mc) : Prop where
  al : m.ans.length < 4611686018427387904
  nl : m.nxt.length < 4611686018427387904
  ar : ∀ r ∈ m.ans, r.length < 4611686018427387904
  nr : ∀ r ∈ m.nxt, r.length < 4611686018427387904
theorem wt_M {d0 d1 d2 d3 : DataW H} (h : Wt 42 (.agg [d0, d1, d2, d3])) : Wt 40 d2 ∧ Wt 40 d3 := by
  unfold Wt at h
  simp only [DataW.weights, Tryd.underlying42, List.map_cons, List.map_nil, DataW.weightsEach, List.mem_append, List.append_nil] at h
  exact ⟨fun n hn => h n (.inr (.inr (.inl hn))), fun n hn => h n (.inr (.inr (.inr hn)))⟩
theorem cellsOf42 : Tryd.prog.cellsOf 42 = 4 := by kernel_rfl
theorem cellsOfII : Tryd.prog.cellsOf 40 = 1 := by kernel_rfl
theorem trod_M {n : Nat} {cs : List Value} {x : DataW H × List MemPlace} (h : DataW.trod enc Tryd.prog W 0 spare held n 42 cs = some x) (hw : Wt 42 x.1) : ∃ c : Mc, McB c ∧ Fits (G0 W) (mcCells c) cs := by
  obtain ⟨xs, m, rfl, rfl, hl, hxl, hf⟩ := DataW.trod_struct Tryd.underlying42 h
  rw [cellsOf42] at hl
  have h0 : DataW.trod enc Tryd.prog W 0 spare held m 3 ((cs.drop 0).take (Tryd.prog.cellsOf 3)) = xs[0]? := hf 0 _ rfl
  have h1 : DataW.trod enc Tryd.prog W 0 spare held m 3 ((cs.drop 1).take (Tryd.prog.cellsOf 3)) = xs[1]? := hf 1 _ rfl
  have h2 : DataW.trod enc Tryd.prog W 0 spare held m 40 ((cs.drop 2).take (Tryd.prog.cellsOf 40)) = xs[2]? := hf 2 _ rfl
  have h3 : DataW.trod enc Tryd.prog W 0 spare held m 40 ((cs.drop 3).take (Tryd.prog.cellsOf 40)) = xs[3]? := hf 3 _ rfl
  rw [cellsOf3] at h0 h1
  rw [cellsOfII] at h2 h3
  have hxl' : xs.length = 4 := hxl
  match xs, hxl' with
  | [y0, y1, y2, y3], _ =>
  have h0 : _ = some y0 := h0
  have h1 : _ = some y1 := h1
  have h2 : _ = some y2 := h2
  have h3 : _ = some y3 := h3
  obtain ⟨w2, w3⟩ := wt_M hw
  obtain ⟨k0, e0⟩ := trod_i64 h0
  obtain ⟨k1, e1⟩ := trod_i64 h1
  obtain ⟨l2, v2, e2, n2, q2, r2⟩ := rd_intss m _ _ h2 w2
  obtain ⟨l3, v3, e3, n3, q3, r3⟩ := rd_intss m _ _ h3 w3
  match cs, hl with
  | [c0, c1, c2, c3], _ =>
    simp only [List.drop_zero, List.drop_succ_cons, List.take_succ_cons, List.take_zero, List.cons.injEq, and_true] at e0 e1 e2 e3
    subst e0; subst e1; subst e2; subst e3
    refine ⟨⟨k0, k1, l2, l3⟩, ⟨n2, n3, q2, q3⟩, rfl, fun i a v ha hv => ?_⟩
    match i with
    | 0 => cases ha; cases hv; exact .int _ _
    | 1 => cases ha; cases hv; exact .int _ _
    | 2 => cases ha; cases hv; exact r2
    | 3 => cases ha; cases hv; exact r3
    | i + 4 => simp [mcCells] at ha
theorem trod_argM {v : Value} {d : DataW H} {p : List MemPlace} (h : DataW.Trod enc Tryd.prog W 0 spare held 42 v d p) (hw : Wt 42 d) : ∃ c : Mc, McB c ∧ Rep (G0 W) (encM c) v := by
  obtain ⟨n, h⟩ := h
  obtain ⟨c, hs, hl, hr⟩ := trod_M h hw
  refine ⟨c, hs, ?_⟩
  rw [encM_eq]
  cases v with
  | agg vs =>
    refine .agg _ vs ?_ fun i a u ha hu => hr i a u ha ?_
    · have : (mcCells c).length = vs.toList.length := hl
      rw [Array.length_toList] at this
      exact this.symm
    · show vs.toList[i]? = some u
      rw [Array.getElem?_toList]; exact hu
  | _ => exact absurd hl (by simp [Value.cells, mcCells])
end
end Go.Sx
