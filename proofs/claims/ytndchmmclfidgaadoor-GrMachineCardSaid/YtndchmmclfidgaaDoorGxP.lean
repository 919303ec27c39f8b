import Derived.Test.YtndchmmclfidgaaDoorGpZ
import Derived.Test.YtndchmmclfidgaaDoorGxE
set_option maxRecDepth 100000
set_option linter.unusedSimpArgs false
set_option linter.unusedVariables false
set_option linter.unnecessarySimpa false
namespace Go.Sx
open Go Go.Lg Go.Proofs
section
variable {H : Type} {enc : TypeId × Value → H} {W : World} {spare : Nat → Bool} {held : Bool}
theorem wt_C {d0 d1 d2 d3 d4 d5 d6 d7 : DataW H} (h : Wt 26 (.agg [d0, d1, d2, d3, d4, d5, d6, d7])) : Wt 24 d2 ∧ Wt 24 d3 ∧ Wt 24 d4 ∧ Wt 24 d5 ∧ Wt 22 d6 ∧ Wt 22 d7 := by
  unfold Wt at h
  simp only [DataW.weights, Tryd.underlying26, List.map_cons, List.map_nil, DataW.weightsEach, List.mem_append, List.append_nil] at h
  exact ⟨fun n hn => h n (.inr (.inr (.inl hn))), fun n hn => h n (.inr (.inr (.inr (.inl hn)))), fun n hn => h n (.inr (.inr (.inr (.inr (.inl hn))))), fun n hn => h n (.inr (.inr (.inr (.inr (.inr (.inl hn)))))),
    fun n hn => h n (.inr (.inr (.inr (.inr (.inr (.inr (.inl hn))))))), fun n hn => h n (.inr (.inr (.inr (.inr (.inr (.inr (.inr hn))))))) ⟩
theorem trod_C {n : Nat} {cs : List Value} {x : DataW H × List MemPlace} (h : DataW.trod enc Tryd.prog W 0 spare held n 26 cs = some x) (hw : Wt 26 x.1) : ∃ c : Ct, ShrtC c ∧ Fits (G0 W) (ctCells c) cs := by
  obtain ⟨xs, m, rfl, rfl, hl, hxl, hf⟩ := DataW.trod_struct Tryd.underlying26 h
  rw [cellsOf26] at hl
  have h0 : DataW.trod enc Tryd.prog W 0 spare held m 3 ((cs.drop 0).take (Tryd.prog.cellsOf 3)) = xs[0]? := hf 0 _ rfl
  have h1 : DataW.trod enc Tryd.prog W 0 spare held m 3 ((cs.drop 1).take (Tryd.prog.cellsOf 3)) = xs[1]? := hf 1 _ rfl
  have h2 : DataW.trod enc Tryd.prog W 0 spare held m 24 ((cs.drop 2).take (Tryd.prog.cellsOf 24)) = xs[2]? := hf 2 _ rfl
  have h3 : DataW.trod enc Tryd.prog W 0 spare held m 24 ((cs.drop 5).take (Tryd.prog.cellsOf 24)) = xs[3]? := hf 3 _ rfl
  have h4 : DataW.trod enc Tryd.prog W 0 spare held m 24 ((cs.drop 8).take (Tryd.prog.cellsOf 24)) = xs[4]? := hf 4 _ rfl
  have h5 : DataW.trod enc Tryd.prog W 0 spare held m 24 ((cs.drop 11).take (Tryd.prog.cellsOf 24)) = xs[5]? := hf 5 _ rfl
  have h6 : DataW.trod enc Tryd.prog W 0 spare held m 22 ((cs.drop 14).take (Tryd.prog.cellsOf 22)) = xs[6]? := hf 6 _ rfl
  have h7 : DataW.trod enc Tryd.prog W 0 spare held m 22 ((cs.drop 15).take (Tryd.prog.cellsOf 22)) = xs[7]? := hf 7 _ rfl
  rw [cellsOf3] at h0 h1
  rw [cellsOf24] at h2 h3 h4 h5
  rw [cellsOf22] at h6 h7
  have hxl' : xs.length = 8 := hxl
  match xs, hxl' with
  | [y0, y1, y2, y3, y4, y5, y6, y7], _ =>
  have h0 : _ = some y0 := h0
  have h1 : _ = some y1 := h1
  have h2 : _ = some y2 := h2
  have h3 : _ = some y3 := h3
  have h4 : _ = some y4 := h4
  have h5 : _ = some y5 := h5
  have h6 : _ = some y6 := h6
  have h7 : _ = some y7 := h7
  obtain ⟨w2, w3, w4, w5, w6, w7⟩ := wt_C hw
  obtain ⟨k0, e0⟩ := trod_i64 h0
  obtain ⟨k1, e1⟩ := trod_i64 h1
  obtain ⟨f2, s2, _, r2⟩ := (trod_F m).1 _ _ h2 w2
  obtain ⟨f3, s3, _, r3⟩ := (trod_F m).1 _ _ h3 w3
  obtain ⟨f4, s4, _, r4⟩ := (trod_F m).1 _ _ h4 w4
  obtain ⟨f5, s5, _, r5⟩ := (trod_F m).1 _ _ h5 w5
  obtain ⟨l6, v6, e6, s6, n6, r6⟩ := (trod_F m).2 _ _ h6 w6
  obtain ⟨l7, v7, e7, s7, n7, r7⟩ := (trod_F m).2 _ _ h7 w7
  match cs, hl with
  | [c0, c1, c2, c3, c4, c5, c6, c7, c8, c9, c10, c11, c12, c13, c14, c15], _ =>
    simp only [List.drop_zero, List.drop_succ_cons, List.take_succ_cons, List.take_zero, List.cons.injEq, and_true] at e0 e1 e6 e7 r2 r3 r4 r5
    subst e0; subst e1; subst e6; subst e7
    refine ⟨⟨k0, k1, f2, f3, f4, f5, l6, l7⟩, ⟨s2, s3, s4, s5, s6, s7, n6, n7⟩, rfl, fun i a v ha hv => ?_⟩
    match i with
    | 0 => cases ha; cases hv; exact .int _ _
    | 1 => cases ha; cases hv; exact .int _ _
    | 2 => cases ha; cases hv; exact r2 0 _ _ rfl rfl
    | 3 => cases ha; cases hv; exact r2 1 _ _ rfl rfl
    | 4 => cases ha; cases hv; exact r2 2 _ _ rfl rfl
    | 5 => cases ha; cases hv; exact r3 0 _ _ rfl rfl
    | 6 => cases ha; cases hv; exact r3 1 _ _ rfl rfl
    | 7 => cases ha; cases hv; exact r3 2 _ _ rfl rfl
    | 8 => cases ha; cases hv; exact r4 0 _ _ rfl rfl
    | 9 => cases ha; cases hv; exact r4 1 _ _ rfl rfl
    | 10 => cases ha; cases hv; exact r4 2 _ _ rfl rfl
    | 11 => cases ha; cases hv; exact r5 0 _ _ rfl rfl
    | 12 => cases ha; cases hv; exact r5 1 _ _ rfl rfl
    | 13 => cases ha; cases hv; exact r5 2 _ _ rfl rfl
    | 14 => cases ha; cases hv; exact r6
    | 15 => cases ha; cases hv; exact r7
    | i + 16 => simp [ctCells] at ha
theorem trod_argC {v : Value} {d : DataW H} {p : List MemPlace} (h : DataW.Trod enc Tryd.prog W 0 spare held 26 v d p) (hw : Wt 26 d) : ∃ c : Ct, ShrtC c ∧ Rep (G0 W) (encC c) v := by
  obtain ⟨n, h⟩ := h
  obtain ⟨c, hs, hl, hr⟩ := trod_C h hw
  refine ⟨c, hs, ?_⟩
  cases v with
  | agg vs =>
    refine .agg _ vs ?_ fun i a u ha hu => hr i a u ha ?_
    · have : (ctCells c).length = vs.toList.length := hl
      rw [Array.length_toList] at this
      exact this.symm
    · show vs.toList[i]? = some u
      rw [Array.getElem?_toList]; exact hu
  | _ => exact absurd hl (by simp [Value.cells, ctCells])
end
end Go.Sx
