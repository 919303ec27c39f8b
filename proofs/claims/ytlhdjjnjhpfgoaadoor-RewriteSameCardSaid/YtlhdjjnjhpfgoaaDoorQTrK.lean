import Derived.Test.YtlhdjjnjhpfgoaaDoorQTrI
import Derived.Test.YtlhdjjnjhpfgoaaDoorLgAv
import Derived.Test.YtlhdjjnjhpfgoaaDoorQTrD
import Derived.Test.YtlhdjjnjhpfgoaaDoorQSnA
set_option maxRecDepth 100000
set_option maxHeartbeats 4000000
set_option linter.unusedSimpArgs false
set_option linter.unusedVariables false
set_option linter.unnecessarySimpa false
namespace Go.Sx
open Go Go.Lg Go.Proofs
mutual
def fullF : Fm → Bool
  | .mk _ _ l => fullL l
def fullL : List Fm → Bool
  | [] => false
  | f :: l => (fullF f || decide (60 < nN (untF f))) || fullL l
end
def untR (b : Bool) (f : Fm) : Fm := if (b || fullF f) = true then fz else untF f
def boolV : Option AObj → Bool
  | some (.box [.bool b]) => b
  | _ => false
def isBoolV : Option AObj → Bool
  | some (.box [.bool _]) => true
  | _ => false
def boolAt (σ : Sto) (p : Nat) : Bool := boolV (σ.get p)
def boxB (σ : Sto) (p : Nat) : Prop := isBoolV (σ.get p) = true ∧ p < σ.next
theorem boolAt_eq (σ : Sto) (p : Nat) : boolAt σ p = boolV (σ.get p) := (rfl)
theorem boolV_box (b : Bool) : boolV (some (.box [.bool b])) = b := (rfl)
theorem boxB_eq (σ : Sto) (p : Nat) : boxB σ p = (isBoolV (σ.get p) = true ∧ p < σ.next) := (rfl)
theorem isBoolV_box (b : Bool) : isBoolV (some (.box [.bool b])) = true := (rfl)
attribute [go_sem] boolAt_eq boolV_box boxB_eq isBoolV_box
section
variable {gl : GL}
theorem few60_ok (f : Fm) (hA : okA f) : PCall (C gl) 5 [encF f, .int .i64 60] (.bool (decide (nN f ≤ 60))) := by
  have := fewR_ok (gl := gl) f (shrt_of_shor _ (shor_okA _ hA)) 60 (by omega) (by omega)
  rw [nodesR_min f 60 (by omega)] at this
  rw [show decide (min ((nodesF f).length : Int) (60 + 1) ≤ 60) = decide (nN f ≤ 60) by unfold nN; exact decide_eq_decide.2 (by omega)] at this
  exact this
instance few60_i (f : Fm) : Ctr (C gl) 5 [encF f, .int .i64 60] (okA f) (.bool (decide (nN f ≤ 60))) := ⟨few60_ok f⟩
end
end Go.Sx

set_option maxRecDepth 100000
set_option maxHeartbeats 4000000
set_option linter.unusedSimpArgs false
set_option linter.unusedVariables false
set_option linter.unnecessarySimpa false
namespace Go.Sx
open Go Go.Lg Go.Proofs
theorem b13 {gl : GL} : Body (C gl).P 13 Tryd.f13 (codeOf Tryd.f13) := ⟨Tryd.func13, by kernel_rfl, by kernel_rfl⟩
/-! ## Simple: round after round until nothing changes -/
theorem map_tot {φ : Fm → Fm} : ∀ l : List Fm, (∀ g ∈ l, φ g = g ∨ nN (φ g) < nN g) → l.map φ = l ∨ (nodesL (l.map φ)).length < (nodesL l).length
  | [], _ => .inl rfl
  | f :: l, h => by
    have h1 := h f List.mem_cons_self
    have h2 := map_tot l fun g hg => h g (List.mem_cons_of_mem _ hg)
    simp only [List.map_cons, nodesL, List.length_append]
    unfold nN at h1
    rcases h1 with h1 | h1
    · rw [h1]
      rcases h2 with h2 | h2
      · rw [h2]; exact .inl rfl
      · exact .inr (by omega)
    · rcases h2 with h2 | h2
      · rw [h2]; exact .inr (by omega)
      · exact .inr (by omega)
theorem all_tot (f : Fm) : okA f → allF f = f ∨ nN (allF f) < nN f := by
  induction f using Fm.ind with
  | h o v l ih =>
    intro hA
    have hm : okA (.mk o v (l.map allF)) := okA_map hA fun g hg => okA_all g (okA_sub hA hg)
    have h1 := map_tot (φ := allF) l fun g hg => ih g hg (okA_sub hA hg)
    have h2 := (mkT_spec hm).2.2
    rw [allF, allL_map]
    have e : ∀ l : List Fm, nN (.mk o v l) = (nodesL l).length + 1 := fun l => by simp [nN, nodesF]
    rw [e] at h2
    rw [e]
    rcases h1 with h1 | h1
    · rw [h1] at h2 ⊢
      rcases h2 with h2 | h2
      · exact .inl h2.1
      · exact .inr h2
    · rcases h2 with h2 | h2
      · rw [h2.1, e]; exact .inr (by omega)
      · exact .inr (by omega)
def simG : Nat → Fm → Fm
  | 0, f => f
  | n + 1, f => if nN (allF f) < nN f then simG n (allF f) else f
def simF (f : Fm) : Fm := simG (nN f) f
theorem simG_more : ∀ (n m : Nat) (f : Fm), nN f ≤ n → nN f ≤ m → simG n f = simG m f
  | 0, m, f, h, _ => by have := nN_pos f; omega
  | n + 1, 0, f, _, h => by have := nN_pos f; omega
  | n + 1, m + 1, f, h1, h2 => by
    simp only [simG]
    split
    · exact simG_more n m _ (by omega) (by omega)
    · rfl
theorem simF_lt {f : Fm} (h : nN (allF f) < nN f) : simF f = simF (allF f) := by
  unfold simF
  obtain ⟨n, hn⟩ : ∃ n, nN f = n + 1 := ⟨nN f - 1, by have := nN_pos f; omega⟩
  rw [hn, simG, if_pos h]
  exact simG_more _ _ _ (by omega) (Nat.le_refl _)
theorem simF_fix {f : Fm} (h : allF f = f) : simF f = f := by
  unfold simF
  cases hn : nN f with
  | zero => rfl
  | succ n => rw [simG, if_neg (by rw [h]; omega)]
theorem simF_spec : ∀ (n : Nat) (f : Fm), nN f ≤ n → okA f → okA (simF f) ∧ allF (simF f) = simF f ∧ nN (simF f) ≤ nN f
  | 0, f, h, _ => by have := nN_pos f; omega
  | n + 1, f, h, hA => by
    rcases all_tot f hA with e | e
    · rw [simF_fix e]; exact ⟨hA, e, Nat.le_refl _⟩
    · rw [simF_lt e]
      obtain ⟨h1, h2, h3⟩ := simF_spec n (allF f) (by omega) (okA_all f hA)
      exact ⟨h1, h2, by omega⟩
/-- What Simple answers. -/
def simS (f : Fm) : Fm × Int := if validF f 6 = true then (simF f, 0) else (fz, 1)
theorem byA_size : ∀ (l : List AV) (r : ByteArray), (((l.map AV.theI)).foldl (fun r n => r.push (UInt8.ofNat n.toNat)) r).size = r.size + l.length
  | [], r => rfl
  | x :: l, r => by rw [List.map_cons, List.foldl_cons, byA_size l, ByteArray.size_push, List.length_cons]; omega
theorem keyS_size (f : Fm) : (keyS f).size = 2 * nN f := by
  have h := byA_size (keyB (nodesF f)) ByteArray.empty
  rw [keyB_len] at h
  have h0 : ByteArray.empty.size = 0 := rfl
  unfold nN
  rw [h0, Nat.zero_add] at h
  exact h
section
variable {gl : GL}
theorem wSimple_ok (har : gl.at' 0 = arityA) (f : Fm) (hs : Shrt f) : PCall (C gl) 13 [encF f] (.tup [encF (simS f).1, .int .i64 (simS f).2]) := by
  refine pcallX (callX_of b13 (by simp [Tryd.ntmps13]) ?_) (by simp only [AllCl, cl_encF, and_true]) (by simp only [cl_tup, AllCl, cl_encF, cl_int, and_true])
  have hva : Ctr (C gl) 20 [encF f, .int .i64 6] True (.bool (validF f 6)) := ⟨fun _ => valid_ok har f hs 6⟩
  refine W.of ?_
  rw [Tryd.ntmps13]
  simp only [toK, codeOf, Tryd.f13, go_sem, seval, reduceCtorEq]
  cases hv : validF f 6 with
  | false =>
    have H := @hv
    refine autoA ?_
    try exact trivial
    first | exact cut_none _ | (refine finA (by first | (simp only [go_sem, seval, reduceCtorEq, simS, hv, fz, encF_fold, encF_fold0, Fm.eta, encFs_fold1, encFs_fold2, encFs_fold3]; done) | (simp only [go_sem, seval, reduceCtorEq, simS, hv, fz, encF_fold, encF_fold0, Fm.eta, encFs_fold1, encFs_fold2, encFs_fold3]; rfl)))
  | true =>
    have hA := (valid_both hv).2
    have hn : nN f ≤ 60 := ((validF_iff f 6).1 hv).2.2.1
    have er : simS f = (simF f, 0) := by unfold simS; rw [if_pos hv]
    rw [er]
    have H := @hv
    refine autoA ?_
    try exact trivial
    refine WK.block ?_
    refine WK.loopX [1, 2, 4] [] (fun s : Bool × List ByteArray × Fm => []) (fun s => ((Sto.none.add (.box [.int .i64 s.2.2.op, .int .i64 s.2.2.var, .list false (encFs s.2.2.args)])).add (.box [.int .i64 0, .int .i64 0, .list true []])).add (.mp (seenE s.2.1))) (fun s => okA s.2.2 ∧ nN s.2.2 ≤ 60 ∧ simF s.2.2 = simF f ∧ (if s.1 = true then allF s.2.2 = s.2.2 ∧ keyS s.2.2 ∈ s.2.1 else ∀ x ∈ s.2.1, 2 * nN s.2.2 < x.size)) (fun s => if s.1 = true then 0 else nN s.2.2) (false, [], f) (by decide) ⟨hA, hn, rfl, fun x hx => by cases hx⟩ (by simp only [go_sem, seval, reduceCtorEq]) rfl ?_
    rintro ⟨b, ks, g⟩ ⟨h1, h2, h3, h4⟩
    simp only at h1 h2 h3 h4
    have hsg := shrt_of_shor _ (shor_okA _ h1)
    have hk : (nodesF g).length < 1000000 := by unfold nN at h2; omega
    have hsz := keyS_size g
    have hsh := shor_okA _ h1
    have kok : KeyOK (C gl) 9 (.str (tx [])) = True := keyOK_str' (by kernel_rfl)
    cases b with
    | true =>
      obtain ⟨h4, h5⟩ := h4
      have hany : (ks.any fun x => keyS g == x) = true := List.any_eq_true.2 ⟨_, h5, ba_beq.2 rfl⟩
      have hg := seen_get (keyS g) ks
      rw [hany] at hg
      rw [← h3, simF_fix h4]
      have H := And.intro @hsg (And.intro @hk (And.intro @seen_shp (And.intro @hg (And.intro @kok @hsh))))
      refine autoA ?_
      try exact trivial
      first | exact cut_none _ | exact finA
    | false =>
      have hany := seen_no (k := keyS g) (ks := ks) (by rw [hsz]; exact h4)
      have hp := seen_put hany
      have hg := seen_get (keyS g) ks
      rw [hany] at hg
      have H := And.intro @hsg (And.intro @hk (And.intro @seen_shp (And.intro @hg (And.intro @hp (And.intro @h1 @kok)))))
      refine autoA ?_
      try exact trivial
      have H := @seen_belO
      rcases all_tot g h1 with e | e
      · rw [e]
        refine ⟨(true, ks ++ [keyS g], g), ⟨h1, h2, h3, ?_⟩, ?_, cutA⟩
        · rw [if_pos rfl]; exact ⟨e, by simp⟩
        · rw [if_pos rfl]; exact nN_pos g
      · refine ⟨(false, ks ++ [keyS g], allF g), ⟨okA_all g h1, by show nN (allF g) ≤ 60; omega, (simF_lt e).symm.trans h3, ?_⟩, e, cutA⟩
        rw [if_neg Bool.false_ne_true] at h4 ⊢
        intro x hx
        show 2 * nN (allF g) < x.size
        rcases List.mem_append.1 hx with hx | hx
        · have := h4 x hx; omega
        · rw [List.mem_singleton.1 hx, hsz]; omega
end
end Go.Sx
