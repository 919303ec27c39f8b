import Derived.Test.YtndchmmclfidgaaDoorLgS
import Derived.Test.YtndchmmclfidgaaDoorSxM
import Derived.Test.YtndchmmclfidgaaDoorLgFm
set_option maxRecDepth 100000
set_option linter.unusedSimpArgs false
set_option linter.unusedVariables false
set_option linter.unnecessarySimpa false
namespace Go.Sx
open Go Go.Lg Go.Proofs
theorem mixed {gl : GL} : (C gl).P.follows .mixedOrders = true := by show Tryd.prog.follows _ = _; kernel_rfl
theorem b111 {gl : GL} : Body (C gl).P 111 Tryd.f111 (codeOf Tryd.f111) := ⟨Tryd.func111, by kernel_rfl, by kernel_rfl⟩
theorem b172 {gl : GL} : Body (C gl).P 172 Tryd.f172 (codeOf Tryd.f172) := ⟨Tryd.func172, by kernel_rfl, by kernel_rfl⟩
theorem b173 {gl : GL} : Body (C gl).P 173 Tryd.f173 (codeOf Tryd.f173) := ⟨Tryd.func173, by kernel_rfl, by kernel_rfl⟩
section
variable {gl : GL}
def deepStep (d : Int) (x : Int) : Int := if x > d then x else d
def isTemporal (o : Int) : Bool := decide (8 ≤ o) && decide (o ≤ 13)
mutual
def deepF : Fm → Int
  | .mk o _ l => if isTemporal o then IntKind.i64.wrap (deepL l 0 + 1) else deepL l 0
def deepL : List Fm → Int → Int
  | [], d => d
  | f :: l, d => deepL l (deepStep d (deepF f))
end
end
mutual
def nodesF : Fm → List Fm
  | .mk o v l => .mk o v l :: nodesL l
def nodesL : List Fm → List Fm
  | [] => []
  | f :: l => nodesF f ++ nodesL l
end
theorem nodesL_take : ∀ (l : List Fm) (i : Nat) (h : i < l.length), nodesL (l.take (i + 1)) = nodesL (l.take i) ++ nodesF l[i]
  | f :: l, 0, h => by simp [nodesL]
  | f :: l, i + 1, h => by simp [nodesL, nodesL_take l i (by simpa using h), List.append_assoc]
def hand (g : Fm) : List AV := [encF g]
structure AllIn (id m yb ab : Nat) (σ : Sto) : Prop where
  y : m ≤ yb ∧ yb < σ.next ∧ σ.get yb = some (.box [.yld id])
  a : m ≤ ab ∧ ab < σ.next ∧ σ.get ab = some (.box [.fn 173 [.ptr yb 0, .ptr ab 0]])
theorem AllIn.kept {id m yb ab : Nat} {σ σ' : Sto} (h : AllIn id m yb ab σ) (k : Kept m σ σ') : AllIn id m yb ab σ' :=
  ⟨⟨h.y.1, Nat.lt_of_lt_of_le h.y.2.1 k.next, (k.get _ h.y.1 h.y.2.1).trans h.y.2.2⟩, ⟨h.a.1, Nat.lt_of_lt_of_le h.a.2.1 k.next, (k.get _ h.a.1 h.a.2.1).trans h.a.2.2⟩⟩
def Knows {T : Type} (step : T → Fm → T) (go : T → Bool) (P : T → Fm → Prop) (t : T) (f : Fm) : Prop := ∀ p x q, nodesF f = p ++ x :: q → go (handT step go t p) = true → P (handT step go t p) x
theorem nodesL_split : ∀ (l : List Fm) (i : Nat), nodesL l = nodesL (l.take i) ++ nodesL (l.drop i)
  | [], i => by simp [nodesL]
  | f :: l, 0 => by simp [nodesL]
  | f :: l, i + 1 => by simp [nodesL, ← nodesL_split l i]
theorem Knows.sub {T : Type} {step : T → Fm → T} {go : T → Bool} {P : T → Fm → Prop} {t : T} {o v : Int} {l : List Fm} (h : Knows step go P t (.mk o v l)) (hgo : go t = true) {i : Nat} (hi : i < l.length)
    (hgi : go (handT step go t (.mk o v l :: nodesL (l.take i))) = true) : Knows step go P (handT step go t (.mk o v l :: nodesL (l.take i))) l[i] := by
  intro p x q hq hg
  have e : handT step go (handT step go t (.mk o v l :: nodesL (l.take i))) p = handT step go t ((.mk o v l :: nodesL (l.take i)) ++ p) := by rw [handT_append _ _ _ _ _ hgo, if_pos hgi]
  rw [e] at hg ⊢
  refine h _ x (q ++ nodesL (l.drop (i + 1))) ?_ hg
  have e2 : nodesL l = nodesL (l.take i) ++ (nodesF l[i] ++ nodesL (l.drop (i + 1))) := by
    rw [nodesL_split l (i + 1), nodesL_take l i hi, List.append_assoc]
  rw [nodesF, e2, hq]
  simp
section
variable {gl : GL} {id m yb ab : Nat} {T : Type} {I : T → Sto → Prop} {step : T → Fm → T} {go : T → Bool} {P : T → Fm → Prop}
theorem all_k (o v : Int) (l : List Fm) (hlen : l.length < 9223372036854775807) (ht : TakerP (C gl) id m I step go hand P)
    (ih : ∀ g ∈ l, ∀ t σ, AllIn id m yb ab σ → I t σ → go t = true → Knows step go P t g → ∃ σ', CallS (C gl) 173 [encF g, .ptr yb 0, .ptr ab 0] σ (.bool (go (handT step go t (nodesF g)))) σ' ∧ I (handT step go t (nodesF g)) σ' ∧ Kept m σ σ')
    (t : T) (σ : Sto) (hJ : AllIn id m yb ab σ) (hI : I t σ) (hgo : go t = true) (hP : Knows step go P t (.mk o v l)) :
    ∃ σ', CallS (C gl) 173 [encF (.mk o v l), .ptr yb 0, .ptr ab 0] σ (.bool (go (handT step go t (nodesF (.mk o v l))))) σ' ∧ I (handT step go t (nodesF (.mk o v l))) σ' ∧ Kept m σ σ' := by
  suffices h : ∃ r σ', CallS (C gl) 173 [encF (.mk o v l), .ptr yb 0, .ptr ab 0] σ r σ' ∧ (r = .bool (go (handT step go t (nodesF (.mk o v l)))) ∧ I (handT step go t (nodesF (.mk o v l))) σ' ∧ Kept m σ σ') by
    obtain ⟨r, σ', h1, rfl, h2⟩ := h; exact ⟨σ', h1, h2⟩
  refine call_of (R := fun r σ' => r = .bool (go (handT step go t (nodesF (.mk o v l)))) ∧ I (handT step go t (nodesF (.mk o v l))) σ' ∧ Kept m σ σ') b173 (by simp [Tryd.ntmps173]) ?_
  have hm := ht.next t σ hI
  obtain ⟨⟨hy1, hy2, hy3⟩, ⟨ha1, ha2, ha3⟩⟩ := hJ
  refine W.of ?_
  rw [Tryd.ntmps173]
  simp only [toK, codeOf, Tryd.f173, go_sem, seval, reduceCtorEq]
  refine WK.seq (WK.reg ?_)
  simp only [go_sem, seval, reduceCtorEq, encF]
  have hne1 : (yb = σ.next) = False := by simp; omega
  have hne2 : (ab = σ.next) = False := by simp; omega
  refine WK.seq (WK.seq (WK.reg ?_))
  simp only [go_sem, seval, reduceCtorEq, hne1, hy3]
  obtain ⟨σ1, hs1, hI1, hk1⟩ := ht.take t _ _ (hP [] _ _ rfl hgo) (ht.add hI (.box [.int .i64 o, .int .i64 v, .list false (encFs l)])) hgo
  refine callK_yield hs1 rfl (by simp only [go_sem, seval, reduceCtorEq]) (by simp only [go_sem, seval, reduceCtorEq, encF, hand]) ?_
  simp only [go_sem, seval, reduceCtorEq]
  have hk0 : Kept m σ σ1 := (Kept.add m σ _).trans hk1
  have hn1 := hk1.next
  simp only [Sto.next_add] at hn1
  have hf1 : σ1.get σ.next = some (.box [.int .i64 o, .int .i64 v, .list false (encFs l)]) := by
    rw [hk1.get σ.next hm (by simp [Sto.next_add])]; simp [Sto.get_add]
  by_cases hg1 : go (step t (.mk o v l)) = true
  · refine WK.cond false (by simp only [go_sem, seval, reduceCtorEq, encF] at hg1 ⊢; simp [hg1]) (fun h => by cases h) (fun _ => ?_)
    refine WK.skip ?_
    simp only [go_sem, seval, reduceCtorEq]
    refine WK.seq (WK.seq (WK.reg ?_))
    simp only [go_sem, seval, reduceCtorEq, hf1, encFs_len]
    refine WK.range l.length hlen (fun i env τ => env 2 = .ptr ab 0 ∧ env 12 = .list false (encFs l) ∧ I (handT step go t (.mk o v l :: nodesL (l.take i))) τ ∧ go (handT step go t (.mk o v l :: nodesL (l.take i))) = true ∧ Kept m σ τ)
      (by decide) (by simp [go_sem]) (by simp [go_sem]) ⟨by simp [go_sem], by simp [go_sem], by simpa [nodesL, hand, handT, hg1] using hI1, by simpa [nodesL, hand, handT, hg1] using hg1, hk0⟩ (by rintro i env σ v t (rfl | rfl | rfl) h <;> simpa [upd] using h) ?step ?done
    case step =>
      rintro i env τ hi ⟨h2, h12, hIi, hgi, hk⟩ hi1 hi2
      have hmτ := ht.next _ _ hIi
      have hτn := hk.next
      refine WK.seq (WK.reg ?_)
      simp only [go_sem, seval, reduceCtorEq, h12, hi1, encFs_len, encFs_get l i hi]
      obtain ⟨o', v', l', hg⟩ : ∃ o' v' l', l[i] = Fm.mk o' v' l' := by cases l[i]; exact ⟨_, _, _, rfl⟩
      simp only [go_sem, seval, reduceCtorEq, hg, encF]
      have hab : (ab = τ.next) = False := by simp; omega
      have haτ : τ.get ab = some (.box [.fn 173 [.ptr yb 0, .ptr ab 0]]) := (hk.get ab ha1 ha2).trans ha3
      refine ⟨by omega, WK.seq (WK.reg ?_)⟩
      simp only [go_sem, seval, reduceCtorEq, h2, hab, haτ]
      have hJτ : AllIn id m yb ab (τ.add (.box [.int .i64 o', .int .i64 v', .list false (encFs l')])) := AllIn.kept ⟨⟨hy1, hy2, hy3⟩, ⟨ha1, ha2, ha3⟩⟩ (hk.trans (Kept.add m τ _))
      obtain ⟨τ1, hc, hIc, hkc⟩ := ih l[i] (List.getElem_mem hi) _ _ hJτ (ht.add hIi (.box [.int .i64 o', .int .i64 v', .list false (encFs l')])) hgi (hP.sub hgo hi hgi)
      rw [hg] at hc
      refine callK_gen b173 (args := [encF (.mk o' v' l')]) hc rfl (by simp only [go_sem, seval, reduceCtorEq]) (by simp only [go_sem, seval, reduceCtorEq, encF]) ?_
      simp only [go_sem, seval, reduceCtorEq]
      have hrun : handT step go t (.mk o v l :: nodesL (l.take (i + 1))) = handT step go (handT step go t (.mk o v l :: nodesL (l.take i))) (nodesF l[i]) := by
        have e : (Fm.mk o v l :: nodesL (l.take (i + 1))) = (Fm.mk o v l :: nodesL (l.take i)) ++ nodesF l[i] := by
          simp [hand, nodesL_take l i hi]
        rw [e, handT_append _ _ _ _ _ hgo, if_pos hgi]
      rw [← hrun] at hIc
      have hkk := hk.trans ((Kept.add m τ _).trans hkc)
      by_cases hgc : go (handT step go t (.mk o v l :: nodesL (l.take (i + 1)))) = true
      · refine WK.cond false (by simp only [go_sem, seval, reduceCtorEq]; rw [← hg, ← hrun, hgc]; rfl) (fun h => by cases h) (fun _ => ?_)
        refine WK.skip ?_
        simp only [go_sem, seval, reduceCtorEq]
        exact ⟨by simp [hi1], by simp [hi2], by simp [h2], by simp [h12], hIc, hgc, hkk⟩
      · refine WK.cond true (by simp only [go_sem, seval, reduceCtorEq]; rw [← hg, ← hrun]; simp [hgc]) (fun _ => ?_) (fun h => by cases h)
        refine WK.seq (WK.reg ?_)
        simp only [go_sem, seval, reduceCtorEq]
        refine WK.ret ?_
        have hfin : handT step go t (nodesF (.mk o v l)) = handT step go t (.mk o v l :: nodesL (l.take (i + 1))) := by
          have e : nodesF (.mk o v l) = (Fm.mk o v l :: nodesL (l.take (i + 1))) ++ nodesL (l.drop (i + 1)) := by
            have : ∀ (l : List Fm) (i : Nat), nodesL l = nodesL (l.take i) ++ nodesL (l.drop i) := by
              intro l
              induction l with
              | nil => intro i; simp [nodesL]
              | cons f l ih => intro i; cases i with
                | zero => simp [nodesL]
                | succ i => simp [nodesL, ← ih i]
            simp [nodesF, hand, ← this l (i + 1), ← List.map_append]
          rw [e, handT_append _ _ _ _ _ hgo, if_neg hgc]
        simp only [go_sem, seval, reduceCtorEq]
        rw [hfin]
        exact ⟨by simp [hgc], hIc, hkk⟩
    case done =>
      rintro env τ ⟨h2, h12, hIi, hgi, hk⟩ _ _
      simp only [go_sem, seval, reduceCtorEq]
      refine WK.seq (WK.reg ?_)
      simp only [go_sem, seval, reduceCtorEq]
      refine WK.ret ?_
      rw [List.take_length] at hIi hgi
      simp only [go_sem, seval, reduceCtorEq]
      exact ⟨by simp [nodesF, hgi], hIi, hk⟩
  · refine WK.cond true (by simp only [go_sem, seval, reduceCtorEq, encF] at hg1 ⊢; simp [hg1]) (fun _ => ?_) (fun h => by cases h)
    refine WK.seq (WK.reg ?_)
    simp only [go_sem, seval, reduceCtorEq]
    refine WK.ret ?_
    have hfin : handT step go t (nodesF (.mk o v l)) = step t (.mk o v l) := by
      simp [nodesF, hand, handT, hg1]
    rw [hfin]
    simp only [go_sem, seval, reduceCtorEq]
    exact ⟨by simp [hg1], hI1, hk0⟩
theorem all_ok (ht : TakerP (C gl) id m I step go hand P) (f : Fm) : Shrt f → ∀ (t : T) (σ : Sto), AllIn id m yb ab σ → I t σ → go t = true → Knows step go P t f →
    ∃ σ', CallS (C gl) 173 [encF f, .ptr yb 0, .ptr ab 0] σ (.bool (go (handT step go t (nodesF f)))) σ' ∧ I (handT step go t (nodesF f)) σ' ∧ Kept m σ σ' := by
  induction f using Fm.ind with
  | h o v l ih =>
    intro hs t σ hJ hI hgo hP
    simp only [Shrt] at hs
    exact all_k o v l hs.1 ht (fun g hg => ih g hg (hs.2.mem g hg)) t σ hJ hI hgo hP
theorem nodesP_ok (f : Fm) (hs : Shrt f) (ht : TakerP (C gl) id m I step go hand P) (fb : Nat) (t : T) (σ : Sto) (hfb : σ.get fb = some (.box (encF f).cells)) (hfn : fb < σ.next) (hI : I t σ) (hgo : go t = true) (hP : Knows step go P t f) :
    ∃ r σ', CallS (C gl) 172 [.yld id, .ptr fb 0] σ r σ' ∧ I (handT step go t (nodesF f)) σ' ∧ Kept m σ σ' := by
  refine call_of (R := fun r σ' => I (handT step go t (nodesF f)) σ' ∧ Kept m σ σ') b172 (by simp [Tryd.ntmps172]) ?_
  have hm := ht.next t σ hI
  refine W.of ?_
  rw [Tryd.ntmps172]
  simp only [toK, codeOf, Tryd.f172, go_sem, seval, reduceCtorEq]
  refine WK.seq (WK.reg ?_)
  simp only [go_sem, seval, reduceCtorEq]
  refine WK.seq (WK.reg ?_)
  simp only [go_sem, seval, reduceCtorEq]
  refine WK.seq (WK.reg ?_)
  simp only [go_sem, seval, reduceCtorEq]
  obtain ⟨o, v, l⟩ := f
  have hne : (fb = σ.next) = False := by simp; omega
  have hne2 : (fb = σ.next + 1) = False := by simp; omega
  refine WK.reg ?_
  simp only [go_sem, seval, reduceCtorEq, hne, hne2, hfb, encF]
  have hJ : AllIn id m σ.next (σ.next + 1) (((σ.add (.box [.yld id])).add (.box [.nilf])).set (σ.next + 1) (.box [.fn 173 [.ptr σ.next 0, .ptr (σ.next + 1) 0]])) := by
    refine ⟨⟨hm, ?_, ?_⟩, ⟨by omega, ?_, ?_⟩⟩ <;> simp [Sto.get_add, Sto.get_set, Sto.next_add, Sto.next_set] <;> omega
  obtain ⟨σ', h1, h2, h3⟩ := all_ok ht (.mk o v l) hs t _ hJ (ht.set (ht.add (ht.add hI _) _) (σ.next + 1) _ (by omega)) hgo hP
  refine callK_gen b173 (args := [encF (.mk o v l)]) h1 rfl (by simp only [go_sem, seval, reduceCtorEq]) (by simp only [go_sem, seval, reduceCtorEq, encF]) ?_
  simp only [go_sem, seval, reduceCtorEq]
  exact ⟨h2, (Kept.set ((Kept.add m σ _).trans (Kept.add m _ _)) _ _ (by omega)).trans h3⟩
theorem nodes1_ok (f : Fm) (hs : Shrt f) (ht : Taker (C gl) id m I step go hand (nodesF f)) (fb : Nat) (t : T) (σ : Sto) (hfb : σ.get fb = some (.box (encF f).cells)) (hfn : fb < σ.next) (hI : I t σ) (hgo : go t = true) :
    ∃ r σ', CallS (C gl) 172 [.yld id, .ptr fb 0] σ r σ' ∧ I (handT step go t (nodesF f)) σ' ∧ Kept m σ σ' :=
  nodesP_ok (P := fun _ x => x ∈ nodesF f) f hs ⟨ht.lt, ht.stable, ht.next, ht.take⟩ fb t σ hfb hfn hI hgo fun p x q h _ => by rw [h]; simp
end
theorem nodes_ok {gl : GL} (f : Fm) (σ : Sto) : CallS (C gl) 111 [encF f] σ (.fn 172 [.ptr σ.next 0]) (σ.add (.box (encF f).cells)) := by
  suffices h : ∃ r σ', CallS (C gl) 111 [encF f] σ r σ' ∧ (r = .fn 172 [.ptr σ.next 0] ∧ σ' = σ.add (.box (encF f).cells)) by
    obtain ⟨r, σ', h1, rfl, rfl⟩ := h; exact h1
  refine call_of (R := fun r σ' => r = .fn 172 [.ptr σ.next 0] ∧ σ' = σ.add (.box (encF f).cells)) b111 (by simp [Tryd.ntmps111]) ?_
  obtain ⟨o, v, l⟩ := f
  refine W.of ?_
  rw [Tryd.ntmps111]
  simp only [toK, codeOf, Tryd.f111, go_sem, seval, reduceCtorEq]
  refine WK.seq (WK.reg ?_)
  simp only [go_sem, seval, reduceCtorEq, encF]
  refine WK.seq (WK.reg ?_)
  simp only [go_sem, seval, reduceCtorEq]
  refine WK.ret ?_
  simp only [go_sem, seval, reduceCtorEq]
theorem b57 {gl : GL} : Body (C gl).P 57 Tryd.f57 (codeOf Tryd.f57) := ⟨Tryd.func57, by kernel_rfl, by kernel_rfl⟩
def arityL : List Int := [0, 0, 0, 1, 2, 2, 2, 2, 1, 1, 1, 2, 2, 2]
def arityA : List AV := arityL.map (AV.int .i64)
def okNode (n : Int) (g : Fm) : Bool :=
  decide (0 ≤ g.op) && decide (g.op ≤ 13) && decide ((g.args.length : Int) = arityL.getD g.op.toNat 0) &&
  (if g.op = 2 then decide (0 ≤ g.var) && decide (g.var < n) else decide (g.var = 0))
def vStep (n : Int) (t : Nat × Bool) (g : Fm) : Nat × Bool := (t.1 + 1, decide (t.1 + 1 ≤ 60) && okNode n g)
def validF (f : Fm) (n : Int) : Bool := decide (0 ≤ n) && decide (n ≤ 6) && (handT (vStep n) (·.2) (0, true) (nodesF f)).2
theorem vStep_snd (n : Int) (t : Nat × Bool) (o v : Int) (l : List Fm) : (vStep n t (.mk o v l)).2 = true ↔ t.1 + 1 ≤ 60 ∧ 0 ≤ o ∧ o ≤ 13 ∧ (l.length : Int) = arityL.getD o.toNat 0 ∧ (o = 2 → 0 ≤ v ∧ v < n) ∧ (o ≠ 2 → v = 0) := by
  change (decide (t.1 + 1 ≤ 60) && (decide (0 ≤ o) && decide (o ≤ 13) && decide ((l.length : Int) = arityL.getD o.toNat 0) && (if o = 2 then decide (0 ≤ v) && decide (v < n) else decide (v = 0)))) = true ↔ _
  simp only [Bool.and_eq_true, decide_eq_true_eq]
  by_cases h : o = 2
  · subst h; simp only [if_true, Bool.and_eq_true, decide_eq_true_eq, ne_eq, not_true, false_implies, and_true, true_implies, and_assoc]
  · simp only [h, if_false, decide_eq_true_eq, ne_eq, not_false_eq_true, true_implies, false_implies, true_and, and_assoc]
section
variable {gl : GL}
theorem valid_ok (har : gl.at' 0 = arityA) (f : Fm) (hs : Shrt f) (n : Int) : PCall (C gl) 57 [encF f, .int .i64 n] (.bool (validF f n)) := by
  refine pcall_of b57 (by simp [Tryd.ntmps57]) (by simp; exact ⟨closedF _, .int _ _⟩) (.bool _) ?_
  refine W.of ?_
  rw [Tryd.ntmps57]
  simp only [toK, codeOf, Tryd.f57, go_sem, seval, reduceCtorEq]
  obtain ⟨o, v, l⟩ := f
  refine WK.seq (WK.reg ?_)
  simp only [go_sem, seval, reduceCtorEq, encF]
  refine WK.seq (WK.seq (WK.reg ?_))
  simp only [go_sem, seval, reduceCtorEq]
  have hleft : ¬ (0 ≤ n ∧ n ≤ 6) → validF (.mk o v l) n = false := fun h => by
    simp only [validF, ← Bool.decide_and, h, decide_false, Bool.false_and]
  by_cases h0 : n < 0
  · simp only [go_sem, seval, reduceCtorEq, h0, decide_true]
    refine WK.cond true (by simp only [go_sem, seval, reduceCtorEq]) (fun _ => ?_) (fun h => by cases h)
    refine WK.seq (WK.reg ?_)
    simp only [go_sem, seval, reduceCtorEq]
    refine WK.ret ?_
    rw [hleft (by omega)]
    simp only [go_sem, seval, reduceCtorEq]
  simp only [go_sem, seval, reduceCtorEq, h0, decide_false]
  by_cases h6 : n > 6
  · refine WK.cond true (by simp [go_sem, h6]) (fun _ => ?_) (fun h => by cases h)
    refine WK.seq (WK.reg ?_)
    simp only [go_sem, seval, reduceCtorEq]
    refine WK.ret ?_
    rw [hleft (by omega)]
    simp only [go_sem, seval, reduceCtorEq]
  refine WK.cond false (by simp [go_sem, h6]) (fun h => by cases h) (fun _ => ?_)
  refine WK.skip ?_
  simp only [go_sem, seval, reduceCtorEq]
  refine WK.seq (WK.reg ?_)
  simp only [go_sem, seval, reduceCtorEq]
  refine WK.seq (WK.seq (WK.reg ?_))
  simp only [go_sem, seval, reduceCtorEq]
  refine callK_gen b111 (args := [encF (.mk o v l)]) (nodes_ok (.mk o v l) _) rfl (by simp only [go_sem, seval, reduceCtorEq]) (by simp only [go_sem, seval, reduceCtorEq, encF]) ?_
  simp only [go_sem, seval, reduceCtorEq, encF]
  refine WK.block ?_
  refine WK.rangeFunc (caps := [.ptr 4 0]) (by simp only [go_sem, seval, reduceCtorEq]) b172 (fun _ h => by cases h) ?_
  intro L hLn hLe hLp hLa hLb
  simp only [toK, go_sem, seval, reduceCtorEq] at hLa hLb ⊢
  let I : Nat × Bool → Sto → Prop := fun t σ => 6 ≤ σ.next ∧ t.1 ≤ 61 ∧ σ.get 1 = some (.box [.int .i64 n]) ∧ σ.get 2 = some (.box [.bool false]) ∧ σ.get 3 = some (.box [.int .i64 t.1]) ∧
    σ.get 5 = some (.loop L (if t.2 = true then .ready else .done) (if t.2 = true then none else some .ret)) ∧ (t.2 = true → t.1 ≤ 60)
  have ht : Taker (C gl) 5 6 I (vStep n) (·.2) hand (nodesF (.mk o v l)) := {
    lt := by decide
    stable := fun t σ σ' ⟨h1, h2, h3, h4, h5, h6, h7⟩ hk hn => ⟨hn, h2, by rw [hk 1 (by decide)]; exact h3, by rw [hk 2 (by decide)]; exact h4, by rw [hk 3 (by decide)]; exact h5, by rw [hk 5 (by decide)]; exact h6, h7⟩
    next := fun t σ h => h.1
    take := by
      rintro ⟨many, ok⟩ σ x hx ⟨h1, h2, h3, h4, h5, h6, h7⟩ hgo
      simp only at hgo
      subst hgo
      simp only [go_sem, seval, reduceCtorEq] at h6 h7
      suffices h : ∃ b σ', YStep (C gl) 5 (hand x) σ b σ' ∧ (b = (vStep n (many, true) x).2 ∧ I (vStep n (many, true) x) σ' ∧ Kept 6 σ σ') by
        obtain ⟨b, σ', h1, rfl, h2⟩ := h; exact ⟨σ', h1, h2⟩
      refine yStep_of h6 (by rw [hLp]; rfl) ?_
      rw [hLa, hLb, hLn, hLe, hLp]
      obtain ⟨o', v', l'⟩ := x
      have e1 : (1 = σ.next) = False := by simp; omega
      have e2 : (2 = σ.next) = False := by simp; omega
      have e3 : (3 = σ.next) = False := by simp; omega
      have e5 : (5 = σ.next) = False := by simp; omega
      have e1' : (σ.next = 1) = False := by simp; omega
      have e2' : (σ.next = 2) = False := by simp; omega
      have e3' : (σ.next = 3) = False := by simp; omega
      have e5' : (σ.next = 5) = False := by simp; omega
      refine WK.reg ?_
      simp only [go_sem, seval, reduceCtorEq, hand, encF, bindP, e5, h6]
      refine ⟨_, rfl, ?_⟩
      refine WK.block (WK.seq (WK.reg ?_))
      simp only [go_sem, seval, reduceCtorEq, e3, h5]
      refine WK.seq (WK.seq ?_)
      refine WK.draw0 mixed (by kernel_rfl) ?_
      clear hLa hLb
      have h1' : 6 ≤ σ.next + 1 := by omega
      have hw : IntKind.i64.wrap ((many : Int) + 1) = ((many + 1 : Nat) : Int) := by rw [wrap_lt (by omega) (by omega)]; rfl
      -- a node that is refused: false is stored, the round returns
      have fin : ∀ (b : Bool) (σ' : Sto), b = (vStep n (many, true) (.mk o' v' l')).2 → I (vStep n (many, true) (.mk o' v' l')) σ' → Kept 6 σ σ' → b = (vStep n (many, true) (.mk o' v' l')).2 ∧ I (vStep n (many, true) (.mk o' v' l')) σ' ∧ Kept 6 σ σ' := fun b σ' h1 h2 h3 => ⟨h1, h2, h3⟩
      have hkept : ∀ (f : AObj) (x y : AObj), Kept 6 σ (((σ.add f).set 5 x).set 3 y) := fun f x y => ((Kept.add 6 σ f).set 5 x (by omega)).set 3 y (by omega)
      have h7 : many ≤ 60 := h7 trivial
      have o60 : many + 1 ≤ 61 := by omega
      have hno : ¬ (many + 1 ≤ 60 ∧ 0 ≤ o' ∧ o' ≤ 13 ∧ (l'.length : Int) = arityL.getD o'.toNat 0 ∧ (o' = 2 → 0 ≤ v' ∧ v' < n) ∧ (o' ≠ 2 → v' = 0)) → (vStep n (many, true) (.mk o' v' l')).2 = false := fun h =>
        Bool.eq_false_iff.2 fun h2 => h ((vStep_snd n (many, true) o' v' l').1 h2)
      by_cases hm : many + 1 > 60
      · have hb : (((many + 1 : Nat) : Int) > 60) = True := by simp; omega
        simp only [go_sem, seval, reduceCtorEq, e3, e3', e5', e2', h5, hw, hb, decide_true]
        have hv : (vStep n (many, true) (.mk o' v' l')).2 = false := hno fun h => by omega
        refine WK.cond true (by simp only [go_sem, seval, reduceCtorEq]) (fun _ => ?_) (fun h => by cases h)
        refine WK.seq (WK.reg ?_)
        simp only [go_sem, seval, reduceCtorEq, e2, h4]
        refine WK.ret ?_
        simp only [go_sem, seval, reduceCtorEq, e5, e5', jumpC]
        refine ⟨⟨_, rfl⟩, _, rfl, hv.symm, ⟨h1', o60, ?_⟩, ((((Kept.add 6 σ _).set 5 _ (by omega)).set 3 _ (by omega)).set 2 _ (by omega)).set 5 _ (by omega)⟩
        simp [Sto.get_set, Sto.get_add, e1, e1', e2, e2', e3, e3', e5, e5', h3, h4, hv]
        rfl
      have hb : (((many + 1 : Nat) : Int) > 60) = False := by simp; omega
      have hm' : many + 1 ≤ 60 := by omega
      by_cases ho : o' < 0
      · simp only [go_sem, seval, reduceCtorEq, e3, e3', e5', e2', h5, hw, hb, decide_true, decide_false, ho]
        have hv : (vStep n (many, true) (.mk o' v' l')).2 = false := hno fun h => by omega
        refine WK.cond true (by simp only [go_sem, seval, reduceCtorEq]) (fun _ => ?_) (fun h => by cases h)
        refine WK.seq (WK.reg ?_)
        simp only [go_sem, seval, reduceCtorEq, e2, h4]
        refine WK.ret ?_
        simp only [go_sem, seval, reduceCtorEq, e5, e5', jumpC]
        refine ⟨⟨_, rfl⟩, _, rfl, hv.symm, ⟨h1', o60, ?_⟩, ((((Kept.add 6 σ _).set 5 _ (by omega)).set 3 _ (by omega)).set 2 _ (by omega)).set 5 _ (by omega)⟩
        simp [Sto.get_set, Sto.get_add, e1, e1', e2, e2', e3, e3', e5, e5', h3, h4, hv]
        rfl
      by_cases ho2 : o' > 13
      · simp only [go_sem, seval, reduceCtorEq, e3, e3', e5', e2', h5, hw, hb, decide_true, decide_false, ho, ho2]
        have hv : (vStep n (many, true) (.mk o' v' l')).2 = false := hno fun h => by omega
        refine WK.cond true (by simp only [go_sem, seval, reduceCtorEq]) (fun _ => ?_) (fun h => by cases h)
        refine WK.seq (WK.reg ?_)
        simp only [go_sem, seval, reduceCtorEq, e2, h4]
        refine WK.ret ?_
        simp only [go_sem, seval, reduceCtorEq, e5, e5', jumpC]
        refine ⟨⟨_, rfl⟩, _, rfl, hv.symm, ⟨h1', o60, ?_⟩, ((((Kept.add 6 σ _).set 5 _ (by omega)).set 3 _ (by omega)).set 2 _ (by omega)).set 5 _ (by omega)⟩
        simp [Sto.get_set, Sto.get_add, e1, e1', e2, e2', e3, e3', e5, e5', h3, h4, hv]
        rfl
      have har : (C gl).gl 0 = arityA := har
      have hlt : o'.toNat < 14 := by omega
      have hget : arityA.getD o'.toNat .undef = .int .i64 (arityL.getD o'.toNat 0) := by
        unfold arityA
        rw [List.getD_eq_getElem?_getD, List.getD_eq_getElem?_getD, List.getElem?_map]
        cases h : arityL[o'.toNat]? with
        | none => simp [arityL] at h; omega
        | some x => rfl
      have hal : arityA.length = 14 := rfl
      have hidx : (0 ≤ o' ∧ o' < 14) = True := by simp; omega
      simp only [go_sem, seval, reduceCtorEq, e3, e3', e5', e2', h5, hw, hb, decide_true, decide_false, ho, ho2, har, encFs_len, hget, hal]
      refine ⟨by omega, by omega, ?_⟩
      by_cases hlen : (l'.length : Int) = arityL.getD o'.toNat 0
      · have hne : ((l'.length : Int) != arityL.getD o'.toNat 0) = false := by simp [hlen]
        simp only [go_sem, seval, reduceCtorEq, hne]
        refine WK.cond false (by simp only [go_sem, seval, reduceCtorEq]) (fun h => by cases h) (fun _ => ?_)
        refine WK.skip ?_
        simp only [go_sem, seval, reduceCtorEq]
        refine WK.seq (WK.reg ?_)
        by_cases ho3 : o' = 2
        · have hb3 : (o' == 2) = true := by simp [ho3]
          have hb4 : (o' != 2) = false := by simp [ho3]
          by_cases hv0 : v' < 0
          · simp only [go_sem, seval, reduceCtorEq, e3, e3', e5', e2', h5, hw, hb3, hb4, hv0, decide_true]
            have hv : (vStep n (many, true) (.mk o' v' l')).2 = false := hno fun h => by omega
            refine WK.cond true (by simp only [go_sem, seval, reduceCtorEq]) (fun _ => ?_) (fun h => by cases h)
            refine WK.seq (WK.reg ?_)
            simp only [go_sem, seval, reduceCtorEq, e2, h4]
            refine WK.ret ?_
            simp only [go_sem, seval, reduceCtorEq, e5, e5', jumpC]
            refine ⟨⟨_, rfl⟩, _, rfl, hv.symm, ⟨h1', o60, ?_⟩, ((((Kept.add 6 σ _).set 5 _ (by omega)).set 3 _ (by omega)).set 2 _ (by omega)).set 5 _ (by omega)⟩
            simp [Sto.get_set, Sto.get_add, e1, e1', e2, e2', e3, e3', e5, e5', h3, h4, hv]
            rfl
          · by_cases hvn : v' ≥ n
            · simp only [go_sem, seval, reduceCtorEq, e3, e3', e5', e2', e1, h3, h5, hw, hb3, hb4, hv0, hvn, decide_true, decide_false]
              have hv : (vStep n (many, true) (.mk o' v' l')).2 = false := hno fun h => by omega
              refine WK.cond true (by simp only [go_sem, seval, reduceCtorEq]) (fun _ => ?_) (fun h => by cases h)
              refine WK.seq (WK.reg ?_)
              simp only [go_sem, seval, reduceCtorEq, e2, h4]
              refine WK.ret ?_
              simp only [go_sem, seval, reduceCtorEq, e5, e5', jumpC]
              refine ⟨⟨_, rfl⟩, _, rfl, hv.symm, ⟨h1', o60, ?_⟩, ((((Kept.add 6 σ _).set 5 _ (by omega)).set 3 _ (by omega)).set 2 _ (by omega)).set 5 _ (by omega)⟩
              simp [Sto.get_set, Sto.get_add, e1, e1', e2, e2', e3, e3', e5, e5', h3, h4, hv]
              rfl
            · simp only [go_sem, seval, reduceCtorEq, e3, e3', e5', e2', e1, h3, h5, hw, hb3, hb4, hv0, hvn, decide_true, decide_false]
              have hv : (vStep n (many, true) (.mk o' v' l')).2 = true := (vStep_snd n (many, true) o' v' l').2 ⟨by omega, by omega, by omega, hlen, fun _ => by omega, fun h => absurd ho3 h⟩
              refine WK.cond false (by simp only [go_sem, seval, reduceCtorEq]) (fun h => by cases h) (fun _ => ?_)
              refine WK.skip ?_
              simp only [go_sem, seval, reduceCtorEq, e5, e5', jumpC]
              refine ⟨⟨_, rfl⟩, _, rfl, hv.symm, ⟨h1', o60, ?_⟩, (((Kept.add 6 σ _).set 5 _ (by omega)).set 3 _ (by omega)).set 5 _ (by omega)⟩
              simp [Sto.get_set, Sto.get_add, e1, e1', e2, e2', e3, e3', e5, e5', h3, h4, hv]
              exact ⟨rfl, by simp only [vStep]; omega⟩
        · have hb3 : (o' == 2) = false := by simp [ho3]
          have hb4 : (o' != 2) = true := by simp [ho3]
          by_cases hv0 : v' = 0
          · have hb5 : (v' != 0) = false := by simp [hv0]
            simp only [go_sem, seval, reduceCtorEq, e3, e3', e5', e2', h5, hw, hb3, hb4, hb5, decide_true, decide_false]
            have hv : (vStep n (many, true) (.mk o' v' l')).2 = true := (vStep_snd n (many, true) o' v' l').2 ⟨by omega, by omega, by omega, hlen, fun h => absurd h ho3, fun _ => hv0⟩
            refine WK.cond false (by simp only [go_sem, seval, reduceCtorEq]) (fun h => by cases h) (fun _ => ?_)
            refine WK.skip ?_
            simp only [go_sem, seval, reduceCtorEq, e5, e5', jumpC]
            refine ⟨⟨_, rfl⟩, _, rfl, hv.symm, ⟨h1', o60, ?_⟩, (((Kept.add 6 σ _).set 5 _ (by omega)).set 3 _ (by omega)).set 5 _ (by omega)⟩
            simp [Sto.get_set, Sto.get_add, e1, e1', e2, e2', e3, e3', e5, e5', h3, h4, hv]
            exact ⟨rfl, by simp only [vStep]; omega⟩
          · have hb5 : (v' != 0) = true := by simp [hv0]
            simp only [go_sem, seval, reduceCtorEq, e3, e3', e5', e2', h5, hw, hb3, hb4, hb5, decide_true, decide_false]
            have hv : (vStep n (many, true) (.mk o' v' l')).2 = false := hno fun h => hv0 (h.2.2.2.2.2 ho3)
            refine WK.cond true (by simp only [go_sem, seval, reduceCtorEq]) (fun _ => ?_) (fun h => by cases h)
            refine WK.seq (WK.reg ?_)
            simp only [go_sem, seval, reduceCtorEq, e2, h4]
            refine WK.ret ?_
            simp only [go_sem, seval, reduceCtorEq, e5, e5', jumpC]
            refine ⟨⟨_, rfl⟩, _, rfl, hv.symm, ⟨h1', o60, ?_⟩, ((((Kept.add 6 σ _).set 5 _ (by omega)).set 3 _ (by omega)).set 2 _ (by omega)).set 5 _ (by omega)⟩
            simp [Sto.get_set, Sto.get_add, e1, e1', e2, e2', e3, e3', e5, e5', h3, h4, hv]
            rfl
      · have hne : ((l'.length : Int) != arityL.getD o'.toNat 0) = true := by simpa using hlen
        simp only [go_sem, seval, reduceCtorEq, hne]
        have hv : (vStep n (many, true) (.mk o' v' l')).2 = false := hno fun h => hlen h.2.2.2.1
        refine WK.cond true (by simp only [go_sem, seval, reduceCtorEq]) (fun _ => ?_) (fun h => by cases h)
        refine WK.seq (WK.reg ?_)
        simp only [go_sem, seval, reduceCtorEq, e2, h4]
        refine WK.ret ?_
        simp only [go_sem, seval, reduceCtorEq, e5, e5', jumpC]
        refine ⟨⟨_, rfl⟩, _, rfl, hv.symm, ⟨h1', o60, ?_⟩, ((((Kept.add 6 σ _).set 5 _ (by omega)).set 3 _ (by omega)).set 2 _ (by omega)).set 5 _ (by omega)⟩
        simp [Sto.get_set, Sto.get_add, e1, e1', e2, e2', e3, e3', e5, e5', h3, h4, hv]
        rfl
      }
  clear hLa hLb hLe hLn hLp
  have hh : 0 ≤ n ∧ n ≤ 6 := by omega
  have hval : validF (.mk o v l) n = (handT (vStep n) (·.2) (0, true) (nodesF (.mk o v l))).2 := by simp [validF, hh.1, hh.2]
  rw [hval]
  refine ex2 (nodes1_ok (.mk o v l) hs ht 4 (0, true) _ ?_ ?_ ?_ rfl) ?_
  · simp [Sto.get_add, Sto.next_add, Sto.next_none, Sto.get_set, Sto.next_set, Sto.get_none, encF, AV.cells]
  · simp [Sto.next_add, Sto.next_none, Sto.next_set]
  · simp [I, Sto.get_add, Sto.next_add, Sto.next_none, Sto.get_set, Sto.next_set, Sto.get_none]
  rintro σ1 ⟨⟨g1, g2, g3, g4, g5, g6, g7⟩, h3⟩
  cases hok : (handT (vStep n) (·.2) (0, true) (nodesF (.mk o v l))).2 with
  | true =>
    simp only [hok, if_true] at g6
    refine ⟨_, _, .normal, g6, by decide, rfl, ?_⟩
    simp only [go_sem, seval, reduceCtorEq]
    refine WK.seq (WK.reg ?_)
    simp only [go_sem, seval, reduceCtorEq, g4]
    refine WK.ret ?_
    simp only [go_sem, seval, reduceCtorEq]
  | false =>
    simp only [hok, Bool.false_eq_true, if_false] at g6
    refine ⟨_, _, .ret, g6, by decide, rfl, ?_⟩
    simp only [go_sem, seval, reduceCtorEq, g4]
end
end Go.Sx
