import Derived.Test.YtndchmmclfidgaaDoorLtlB
import Derived.ChangeArms
import Derived.Deep.Slices
import Derived.WalkKit
import Derived.ProofKit
import Derived.OpenShut
import Derived.ChangeOld
import Derived.Below
import Derived.SizedLaws
import Derived.Handed
import Derived.Test.YtndchmmclfidgaaDoorRows
set_option maxRecDepth 100000
set_option linter.unusedSimpArgs false
set_option linter.unusedVariables false
set_option linter.unnecessarySimpa false
namespace Go.Sx
open Go Go.Lg Go.Proofs
def G0 (W : World) : Gh := ⟨fun _ => none, fun b o => W.cell? ⟨b, o, none⟩, fun _ => none⟩
def Fits (G : Gh) (xs : List AV) (cs : List Value) : Prop := xs.length = cs.length ∧ ∀ (i : Nat) (a : AV) (v : Value), xs[i]? = some a → cs[i]? = some v → Rep G a v
theorem choose_fm {α : Type} [Inhabited α] {n : Nat} {p : Nat → α → Prop} (h : ∀ i, i < n → ∃ a, p i a) : ∃ F : Nat → α, ∀ i, i < n → p i (F i) :=
  ⟨fun i => if h' : i < n then Classical.choose (h i h') else default, fun i hi => by simp only [dif_pos hi]; exact Classical.choose_spec (h i hi)⟩
instance : Inhabited Fm := ⟨.mk 0 0 []⟩
theorem addr_add {a : Addr} (h : a.spot = none) (m : Nat) : a.add m = ⟨a.block, a.off + m, none⟩ := by
  cases a with
  | mk b o s =>
    cases h
    unfold Addr.add
    split
    · rename_i e; subst e; rfl
    · rfl
theorem cellsOf24 : Tryd.prog.cellsOf 24 = 3 := by kernel_rfl
theorem cellsOf22 : Tryd.prog.cellsOf 22 = 1 := by kernel_rfl
theorem cellsOf3 : Tryd.prog.cellsOf 3 = 1 := by kernel_rfl
theorem cellsOf26 : Tryd.prog.cellsOf 26 = 16 := by kernel_rfl
theorem encFs_map (l : List Fm) : encFs l = l.map encF := by
  induction l with
  | nil => rfl
  | cons f l ih => simp [encFs, ih]
theorem shrtL_iff : ∀ l : List Fm, ShrtL l ↔ ∀ f ∈ l, Shrt f
  | [] => by simp [ShrtL]
  | f :: l => by simp [ShrtL, shrtL_iff l]
section
variable {H : Type} {enc : TypeId × Value → H} {W : World} {spare : Nat → Bool} {held : Bool}
theorem trod_i64 {n : Nat} {cs : List Value} {x : DataW H × List MemPlace} (h : DataW.trod enc Tryd.prog W 0 spare held n 3 cs = some x) : ∃ k : Int, cs = [.int .i64 k] := by
  cases n with
  | zero => simp [DataW.trod] at h
  | succ n =>
    unfold DataW.trod at h
    rw [Tryd.underlying3] at h
    split at h <;> simp_all
def Wt (t : TypeId) (d : DataW H) : Prop := ∀ n ∈ d.weights Tryd.prog t, n ≤ reachBytes
theorem bytesOf24 : Tryd.prog.bytesOf 24 = 40 := by kernel_rfl
theorem weightsAll_mem {e : TypeId} {d : DataW H} {n : Nat} (hn : n ∈ d.weights Tryd.prog e) : ∀ l : List (DataW H), d ∈ l → n ∈ DataW.weightsAll Tryd.prog e l
  | x :: l, h => by
    simp only [DataW.weightsAll, List.mem_append]
    rcases List.mem_cons.1 h with rfl | h
    · exact .inl hn
    · exact .inr (weightsAll_mem hn l h)
theorem wt_slice {xs ys : List (DataW H)} (h : Wt 22 (.slice xs ys)) : xs.length < 4611686018427387904 ∧ ∀ d ∈ xs, Wt 24 d := by
  unfold Wt at h
  simp only [DataW.weights, Tryd.underlying22, bytesOf24, List.mem_cons, List.mem_append] at h
  have h1 := h _ (.inl rfl)
  have hr : reachBytes < 4611686018427387904 := by unfold reachBytes; omega
  refine ⟨by omega, fun d hd n hn => h n (.inr (.inl (weightsAll_mem hn xs hd)))⟩
theorem wt_F {d0 d1 d2 : DataW H} (h : Wt 24 (.agg [d0, d1, d2])) : Wt 22 d2 := by
  unfold Wt at h
  simp only [DataW.weights, Tryd.underlying24, List.map_cons, List.map_nil, DataW.weightsEach, List.mem_append, List.append_nil] at h
  exact fun n hn => h n (.inr (.inr hn))
theorem trod_F : ∀ n : Nat, (∀ (cs : List Value) (x : DataW H × List MemPlace), DataW.trod enc Tryd.prog W 0 spare held n 24 cs = some x → Wt 24 x.1 → ∃ f : Fm, Shrt f ∧ Fits (G0 W) [.int .i64 f.op, .int .i64 f.var, .list false (encFs f.args)] cs) ∧
    (∀ (cs : List Value) (x : DataW H × List MemPlace), DataW.trod enc Tryd.prog W 0 spare held n 22 cs = some x → Wt 22 x.1 → ∃ (l : List Fm) (v : Value), cs = [v] ∧ ShrtL l ∧ l.length < 4611686018427387904 ∧ Rep (G0 W) (.list false (encFs l)) v) := by
  intro n
  induction n using Nat.strongRecOn with
  | ind n ih =>
  constructor
  · intro cs x h hw
    obtain ⟨xs, m, rfl, rfl, hl, hxl, hf⟩ := DataW.trod_struct Tryd.underlying24 h
    rw [cellsOf24] at hl
    have h0 : DataW.trod enc Tryd.prog W 0 spare held m 3 ((cs.drop 0).take (Tryd.prog.cellsOf 3)) = xs[0]? := hf 0 _ rfl
    have h1 : DataW.trod enc Tryd.prog W 0 spare held m 3 ((cs.drop 1).take (Tryd.prog.cellsOf 3)) = xs[1]? := hf 1 _ rfl
    have h2 : DataW.trod enc Tryd.prog W 0 spare held m 22 ((cs.drop 2).take (Tryd.prog.cellsOf 22)) = xs[2]? := hf 2 _ rfl
    rw [cellsOf3] at h0 h1
    rw [cellsOf22] at h2
    have hxl' : xs.length = 3 := hxl
    match xs, hxl' with
    | [y0, y1, y2], _ =>
    have h0 : _ = some y0 := h0
    have h1 : _ = some y1 := h1
    have h2 : _ = some y2 := h2
    have hw2 : Wt 22 y2.1 := wt_F hw
    obtain ⟨k0, e0⟩ := trod_i64 h0
    obtain ⟨k1, e1⟩ := trod_i64 h1
    obtain ⟨l, v, e2, hs, hl2, hr⟩ := (ih m (Nat.lt_succ_self m)).2 _ _ h2 hw2
    match cs, hl with
    | [c0, c1, c2], _ =>
      simp only [List.drop_zero, List.drop_succ_cons, List.take_succ_cons, List.take_zero, List.cons.injEq, and_true] at e0 e1 e2
      subst e0; subst e1; subst e2
      refine ⟨.mk k0 k1 l, by simp only [Shrt]; exact ⟨by omega, hs⟩, rfl, fun i a v ha hv => ?_⟩
      match i with
      | 0 => cases ha; cases hv; exact .int _ _
      | 1 => cases ha; cases hv; exact .int _ _
      | 2 => cases ha; cases hv; exact hr
      | i + 3 => simp at ha
  · intro cs x h hw
    rcases DataW.trod_slice Tryd.underlying22 h with ⟨rfl, _⟩ | ⟨a, len, cap, elems, rest, m, rfl, rfl, rfl, hb, hlc, hcm, hel, hE, _, _⟩
    · exact ⟨[], _, rfl, trivial, by simp, .list0 false _ _ (fun e => by cases e)⟩
    · rw [cellsOf24] at hE
      obtain ⟨hcap, hwe⟩ := wt_slice hw
      rw [List.length_map] at hcap
      have key : ∀ i, i < len → ∃ p : Fm × List Value, W.cells? 0 (a.add (i * 3)) 3 = some p.2 ∧ Shrt p.1 ∧ Fits (G0 W) [.int .i64 p.1.op, .int .i64 p.1.var, .list false (encFs p.1.args)] p.2 := by
        intro i hi
        have e := hE i hi
        rw [List.getElem?_eq_getElem (by omega)] at e
        obtain ⟨cs', h1, h2⟩ := Option.bind_eq_some_iff.1 e
        obtain ⟨f, g1, g2⟩ := (ih m (Nat.lt_succ_self m)).1 _ _ h2 (hwe _ (List.mem_map_of_mem (List.getElem_mem (by omega))))
        exact ⟨(f, cs'), h1, g1, g2⟩
      obtain ⟨F, hF⟩ := choose_fm key
      by_cases hlen : len = 0
      · subst hlen
        exact ⟨[], _, rfl, trivial, by simp, .list0 false _ _ (fun e => by cases e)⟩
      have hspot : a.spot = none := by
        have h0 := hF 0 (by omega)
        obtain ⟨_, _, g⟩ := World.cells?_some h0.1
        have g0 := g 0 (by omega)
        have hl := h0.2.2.1
        simp only [List.length_cons, List.length_nil] at hl
        rw [List.getElem?_eq_getElem (by omega)] at g0
        simp only [Nat.zero_mul, Addr.add, if_true] at g0
        unfold World.cell? at g0
        split at g0
        · split at g0
          · cases g0
          · rename_i hs; simpa using hs
        · cases g0
      have hx : ∀ (i : Nat) (x : AV), (encFs ((List.range len).map fun i => (F i).1))[i]? = some x → i < len ∧ x = encF (F i).1 := by
        intro i x hx
        rw [encFs_map, List.map_map, List.getElem?_map] at hx
        obtain ⟨j, hj, rfl⟩ := Option.map_eq_some_iff.1 hx
        obtain ⟨hi, hj'⟩ := List.getElem?_eq_some_iff.1 hj
        simp only [List.length_range] at hi
        simp only [List.getElem_range] at hj'
        subst hj'
        exact ⟨hi, rfl⟩
      refine ⟨(List.range len).map fun i => (F i).1, _, rfl, ?_, by simp; omega, ?_⟩
      · rw [shrtL_iff]
        intro f hf
        obtain ⟨i, hi, rfl⟩ := List.mem_map.1 hf
        exact (hF i (List.mem_range.1 hi)).2.1
      · have ea : a = ⟨a.block, a.off, none⟩ := by cases a; cases hspot; rfl
        rw [ea]
        refine .list false _ a.block a.off len cap 3 (fun i k => (F i).2.getD k (.bool false)) (by rw [encFs_len]; simp) hlc (fun e => by cases e) ?_ ?_ ?_
        · intro i x h
          obtain ⟨_, rfl⟩ := hx i x h
          rw [encF_eq]; rfl
        · intro i k hi hk
          obtain ⟨_, _, g⟩ := World.cells?_some (hF i hi).1
          have g0 := g k hk
          have hl := (hF i hi).2.2.1
          simp only [List.length_cons, List.length_nil] at hl
          rw [addr_add hspot, addr_add rfl] at g0
          show W.cell? ⟨a.block, a.off + (i * 3 + k), none⟩ = _
          rw [show a.off + (i * 3 + k) = a.off + i * 3 + k by omega, g0]
          simp only [List.getD, List.getElem?_eq_getElem (show k < (F i).2.length by omega), Option.getD_some]
        · intro i x k c hx1 hc1
          obtain ⟨hi, rfl⟩ := hx i x hx1
          rw [encF_eq] at hc1
          have hl := (hF i hi).2.2.1
          simp only [List.length_cons, List.length_nil] at hl
          have hk : k < 3 := by
            have := (List.getElem?_eq_some_iff.1 hc1).1
            exact this
          exact (hF i hi).2.2.2 k c _ hc1 (by simp [List.getD, List.getElem?_eq_getElem (show k < (F i).2.length by omega)])
theorem take_at {cs : List Value} {i n k : Nat} {v : Value} (h : ((cs.drop i).take n)[k]? = some v) : cs[i + k]? = some v := by
  rw [List.getElem?_take] at h
  split at h
  · rwa [List.getElem?_drop] at h
  · cases h
end
end Go.Sx
