import Derived.Test.YtlhdjjnjhpfgoaaDoorQBdC
import Derived.Test.YtlhdjjnjhpfgoaaDoorQTsE
set_option maxRecDepth 100000
set_option linter.unusedSimpArgs false
set_option linter.unusedVariables false
set_option linter.unnecessarySimpa false
namespace Go.Sx
open Go Go.Lg Go.Proofs Go.ChangeShapes Go.WideShapes Go.RowKit
/-! ## Words, as they come in -/
def I63 (n : Int) : Prop := n < 9223372036854775808
theorem okWide_int63 {P : Program} {w : World} {r : Reach} {base : Nat} {t : TypeId} {v : Value} (ht : P.underlying t = some (.int .i64)) (h : Value.okWide P w r base t v) : ∃ n, v = .int .i64 n ∧ I63 n := by
  obtain ⟨n, rfl⟩ := okWide_int ht h
  refine ⟨n, rfl, ?_⟩
  simp [Value.okWide, ht, Cell.okWide, Cell.ok, IntKind.has] at h
  unfold I63
  omega
def encW2 (p : List Int × List Int) : AV := encW p.1 p.2
/-- Lengths as they come in. -/
def WB (s l : List Int) : Prop := s.length < 2305843009213693952 ∧ l.length < 2305843009213693952
def WB2 (p : List Int × List Int) : Prop := WB p.1 p.2
section
variable {H : Type} {enc : TypeId × Value → H} {W : World} {spare : Nat → Bool} {held : Bool}
theorem rd_int (m : Nat) (cs : List Value) (x : DataW H × List MemPlace) (h : DataW.trod enc Tryd.prog W 0 spare held m 3 cs = some x) (_ : Wt 3 x.1) : ∃ s : Int, True ∧ Fits (G0 W) (intE s).cells cs := by
  obtain ⟨k, rfl⟩ := trod_i64 h
  refine ⟨k, trivial, rfl, fun i a v ha hv => ?_⟩
  match i with
  | 0 =>
    cases ha; cases hv; exact .int _ _
  | i + 1 => simp [intE, AV.cells] at ha
theorem bytesOf3 : Tryd.prog.bytesOf 3 = 8 := by kernel_rfl
theorem rd_ints (m : Nat) (cs : List Value) (x : DataW H × List MemPlace) (h : DataW.trod enc Tryd.prog W 0 spare held m 32 cs = some x) (hw : Wt 32 x.1) : ∃ (l : List Int) (v : Value), cs = [v] ∧ l.length < 2305843009213693952 ∧ Rep (G0 W) (.list false (l.map intE)) v := by
  obtain ⟨l, v, e, _, hb, hr⟩ := rd_slice (ts := 32) (e := 3) (n := 1) Tryd.underlying32 (by kernel_rfl) (by decide) intE (fun _ => True) (fun _ => rfl) rd_int m _ _ h hw
  refine ⟨l, v, e, ?_, hr⟩
  rw [bytesOf3] at hb
  unfold reachBytes at hb; omega
theorem wt_W {d0 d1 : DataW H} (h : Wt 34 (.agg [d0, d1])) : Wt 32 d0 ∧ Wt 32 d1 := by
  unfold Wt at h
  simp only [DataW.weights, Tryd.underlying34, List.map_cons, List.map_nil, DataW.weightsEach, List.mem_append, List.append_nil] at h
  exact ⟨fun n hn => h n (.inl hn), fun n hn => h n (.inr hn)⟩
theorem cellsOf34 : Tryd.prog.cellsOf 34 = 2 := by kernel_rfl
theorem cellsOf32 : Tryd.prog.cellsOf 32 = 1 := by kernel_rfl
theorem trod_argW {v : Value} {d : DataW H} {p : List MemPlace} (h : DataW.Trod enc Tryd.prog W 0 spare held 34 v d p) (hw : Wt 34 d) : ∃ c : List Int × List Int, WB2 c ∧ Rep (G0 W) (encW2 c) v := by
  obtain ⟨n, h⟩ := h
  obtain ⟨xs, m, rfl, hx, hl, hxl, hf⟩ := DataW.trod_struct Tryd.underlying34 h
  rw [cellsOf34] at hl
  have h0 : DataW.trod enc Tryd.prog W 0 spare held m 32 ((v.cells.toList.drop 0).take (Tryd.prog.cellsOf 32)) = xs[0]? := hf 0 _ rfl
  have h1 : DataW.trod enc Tryd.prog W 0 spare held m 32 ((v.cells.toList.drop 1).take (Tryd.prog.cellsOf 32)) = xs[1]? := hf 1 _ rfl
  rw [cellsOf32] at h0 h1
  have hxl' : xs.length = 2 := hxl
  match xs, hxl' with
  | [y0, y1], _ =>
  have h0 : _ = some y0 := h0
  have h1 : _ = some y1 := h1
  cases hx
  obtain ⟨w0, w1⟩ := wt_W hw
  obtain ⟨l0, v0, e0, b0, r0⟩ := rd_ints _ _ _ h0 w0
  obtain ⟨l1, v1, e1, b1, r1⟩ := rd_ints _ _ _ h1 w1
  refine ⟨(l0, l1), ⟨b0, b1⟩, ?_⟩
  cases v with
  | agg vs =>
    have hl : vs.toList.length = 2 := hl
    match hvs : vs.toList, hl with
    | [c0, c1], _ =>
      have hvc : (Value.agg vs).cells.toList = [c0, c1] := hvs
      rw [hvc] at e0 e1
      simp only [List.drop_zero, List.drop_succ_cons, List.take_succ_cons, List.take_zero, List.cons.injEq, and_true] at e0 e1
      subst e0; subst e1
      have hs : vs.size = 2 := by rw [← Array.length_toList, hvs]; rfl
      refine .agg _ vs hs fun i a u ha hu => ?_
      rw [← Array.getElem?_toList, hvs] at hu
      match i with
      | 0 => cases ha; cases hu; exact r0
      | 1 => cases ha; cases hu; exact r1
      | i + 2 => simp at ha
  | _ => exact absurd hl (by simp [Value.cells])
end
end Go.Sx
