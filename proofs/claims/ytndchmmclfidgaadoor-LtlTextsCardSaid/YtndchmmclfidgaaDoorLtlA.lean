import Derived.Test.YtndchmmclfidgaaDoorLgS
import Derived.Test.YtndchmmclfidgaaDoorSxF
import Derived.Test.YtndchmmclfidgaaDoorLgFm
set_option maxRecDepth 100000
set_option linter.unusedSimpArgs false
set_option linter.unusedVariables false
set_option linter.unnecessarySimpa false
namespace Go.Sx
open Go Go.Lg Go.Proofs

theorem mixed {gl : GL} : (C gl).P.follows .mixedOrders = true := by show Tryd.prog.follows _ = _; kernel_rfl
theorem b111 {gl : GL} : Body (C gl).P 111 Tryd.f111 (codeOf Tryd.f111) := ⟨Tryd.func111, by kernel_rfl, by kernel_rfl⟩
theorem b172 {gl : GL} : Body (C gl).P 172 Tryd.f172 (codeOf Tryd.f172) := ⟨Tryd.func172, by kernel_rfl, by kernel_rfl⟩
theorem b173 {gl : GL} : Body (C gl).P 173 Tryd.f173 (codeOf Tryd.f173) := ⟨Tryd.func173, by kernel_rfl, by kernel_rfl⟩

section
variable {gl : GL}

def deepStep (d : Int) (x : Int) : Int := if x > d then x else d
def isTemporal (o : Int) : Bool := decide (8 ≤ o) && decide (o ≤ 13)
mutual
def deepF : Fm → Int
  | .mk o _ l => if isTemporal o then IntKind.i64.wrap (deepL l 0 + 1) else deepL l 0
def deepL : List Fm → Int → Int
  | [], d => d
  | f :: l, d => deepL l (deepStep d (deepF f))
end


end

mutual
def nodesF : Fm → List Fm
  | .mk o v l => .mk o v l :: nodesL l
def nodesL : List Fm → List Fm
  | [] => []
  | f :: l => nodesF f ++ nodesL l
end
theorem nodesL_take : ∀ (l : List Fm) (i : Nat) (h : i < l.length), nodesL (l.take (i + 1)) = nodesL (l.take i) ++ nodesF l[i]
  | f :: l, 0, h => by simp [nodesL]
  | f :: l, i + 1, h => by simp [nodesL, nodesL_take l i (by simpa using h), List.append_assoc]

/-- What is handed over. -/
def hand (g : Fm) : List AV := [encF g]

structure AllIn (id m yb ab : Nat) (σ : Sto) : Prop where
  y : m ≤ yb ∧ yb < σ.next ∧ σ.get yb = some (.box [.yld id])
  a : m ≤ ab ∧ ab < σ.next ∧ σ.get ab = some (.box [.fn 173 [.ptr yb 0, .ptr ab 0]])
theorem AllIn.kept {id m yb ab : Nat} {σ σ' : Sto} (h : AllIn id m yb ab σ) (k : Kept m σ σ') : AllIn id m yb ab σ' :=
  ⟨⟨h.y.1, Nat.lt_of_lt_of_le h.y.2.1 k.next, (k.get _ h.y.1 h.y.2.1).trans h.y.2.2⟩, ⟨h.a.1, Nat.lt_of_lt_of_le h.a.2.1 k.next, (k.get _ h.a.1 h.a.2.1).trans h.a.2.2⟩⟩

/-- What is known of each node of a formula that is handed over from state t on. -/
def Knows {T : Type} (step : T → Fm → T) (go : T → Bool) (P : T → Fm → Prop) (t : T) (f : Fm) : Prop := ∀ p x q, nodesF f = p ++ x :: q → go (handT step go t p) = true → P (handT step go t p) x
theorem nodesL_split : ∀ (l : List Fm) (i : Nat), nodesL l = nodesL (l.take i) ++ nodesL (l.drop i)
  | [], i => by simp [nodesL]
  | f :: l, 0 => by simp [nodesL]
  | f :: l, i + 1 => by simp [nodesL, ← nodesL_split l i]
theorem Knows.sub {T : Type} {step : T → Fm → T} {go : T → Bool} {P : T → Fm → Prop} {t : T} {o v : Int} {l : List Fm} (h : Knows step go P t (.mk o v l)) (hgo : go t = true) {i : Nat} (hi : i < l.length)
    (hgi : go (handT step go t (.mk o v l :: nodesL (l.take i))) = true) : Knows step go P (handT step go t (.mk o v l :: nodesL (l.take i))) l[i] := by
  intro p x q hq hg
  have e : handT step go (handT step go t (.mk o v l :: nodesL (l.take i))) p = handT step go t ((.mk o v l :: nodesL (l.take i)) ++ p) := by rw [handT_append _ _ _ _ _ hgo, if_pos hgi]
  rw [e] at hg ⊢
  refine h _ x (q ++ nodesL (l.drop (i + 1))) ?_ hg
  have e2 : nodesL l = nodesL (l.take i) ++ (nodesF l[i] ++ nodesL (l.drop (i + 1))) := by
    rw [nodesL_split l (i + 1), nodesL_take l i hi, List.append_assoc]
  rw [nodesF, e2, hq]
  simp
section
variable {gl : GL} {id m yb ab : Nat} {T : Type} {I : T → Sto → Prop} {step : T → Fm → T} {go : T → Bool} {P : T → Fm → Prop}

theorem all_k (o v : Int) (l : List Fm) (hlen : l.length < 9223372036854775807) (ht : TakerP (C gl) id m I step go hand P)
    (ih : ∀ g ∈ l, ∀ t σ, AllIn id m yb ab σ → I t σ → go t = true → Knows step go P t g → ∃ σ', CallS (C gl) 173 [encF g, .ptr yb 0, .ptr ab 0] σ (.bool (go (handT step go t (nodesF g)))) σ' ∧ I (handT step go t (nodesF g)) σ' ∧ Kept m σ σ')
    (t : T) (σ : Sto) (hJ : AllIn id m yb ab σ) (hI : I t σ) (hgo : go t = true) (hP : Knows step go P t (.mk o v l)) :
    ∃ σ', CallS (C gl) 173 [encF (.mk o v l), .ptr yb 0, .ptr ab 0] σ (.bool (go (handT step go t (nodesF (.mk o v l))))) σ' ∧ I (handT step go t (nodesF (.mk o v l))) σ' ∧ Kept m σ σ' := by
  suffices h : ∃ r σ', CallS (C gl) 173 [encF (.mk o v l), .ptr yb 0, .ptr ab 0] σ r σ' ∧ (r = .bool (go (handT step go t (nodesF (.mk o v l)))) ∧ I (handT step go t (nodesF (.mk o v l))) σ' ∧ Kept m σ σ') by
    obtain ⟨r, σ', h1, rfl, h2⟩ := h; exact ⟨σ', h1, h2⟩
  refine call_of (R := fun r σ' => r = .bool (go (handT step go t (nodesF (.mk o v l)))) ∧ I (handT step go t (nodesF (.mk o v l))) σ' ∧ Kept m σ σ') b173 (by simp [Tryd.ntmps173]) ?_
  have hm := ht.next t σ hI
  obtain ⟨⟨hy1, hy2, hy3⟩, ⟨ha1, ha2, ha3⟩⟩ := hJ
  refine W.of ?_
  rw [Tryd.ntmps173]
  simp only [toK, codeOf, Tryd.f173, go_sem, seval, reduceCtorEq]
  refine WK.seq (WK.reg ?_)
  simp only [go_sem, seval, reduceCtorEq, encF]
  have hne1 : (yb = σ.next) = False := by simp; omega
  have hne2 : (ab = σ.next) = False := by simp; omega
  refine WK.seq (WK.seq (WK.reg ?_))
  simp only [go_sem, seval, reduceCtorEq, hne1, hy3]
  obtain ⟨σ1, hs1, hI1, hk1⟩ := ht.take t _ _ (hP [] _ _ rfl hgo) (ht.add hI (.box [.int .i64 o, .int .i64 v, .list false (encFs l)])) hgo
  refine callK_yield hs1 rfl (by simp only [go_sem, seval, reduceCtorEq]) (by simp only [go_sem, seval, reduceCtorEq, encF, hand]) ?_
  simp only [go_sem, seval, reduceCtorEq]
  have hk0 : Kept m σ σ1 := (Kept.add m σ _).trans hk1
  have hn1 := hk1.next
  simp only [Sto.next_add] at hn1
  have hf1 : σ1.get σ.next = some (.box [.int .i64 o, .int .i64 v, .list false (encFs l)]) := by
    rw [hk1.get σ.next hm (by simp [Sto.next_add])]; simp [Sto.get_add]
  by_cases hg1 : go (step t (.mk o v l)) = true
  · refine WK.cond false (by simp only [go_sem, seval, reduceCtorEq, encF] at hg1 ⊢; simp [hg1]) (fun h => by cases h) (fun _ => ?_)
    refine WK.skip ?_
    simp only [go_sem, seval, reduceCtorEq]
    refine WK.seq (WK.seq (WK.reg ?_))
    simp only [go_sem, seval, reduceCtorEq, hf1, encFs_len]
    refine WK.range l.length hlen (fun i env τ => env 2 = .ptr ab 0 ∧ env 12 = .list false (encFs l) ∧ I (handT step go t (.mk o v l :: nodesL (l.take i))) τ ∧ go (handT step go t (.mk o v l :: nodesL (l.take i))) = true ∧ Kept m σ τ)
      (by decide) (by simp [go_sem]) (by simp [go_sem]) ⟨by simp [go_sem], by simp [go_sem], by simpa [nodesL, hand, handT, hg1] using hI1, by simpa [nodesL, hand, handT, hg1] using hg1, hk0⟩ (by rintro i env σ v t (rfl | rfl | rfl) h <;> simpa [upd] using h) ?step ?done
    case step =>
      rintro i env τ hi ⟨h2, h12, hIi, hgi, hk⟩ hi1 hi2
      have hmτ := ht.next _ _ hIi
      have hτn := hk.next
      refine WK.seq (WK.reg ?_)
      simp only [go_sem, seval, reduceCtorEq, h12, hi1, encFs_len, encFs_get l i hi]
      obtain ⟨o', v', l', hg⟩ : ∃ o' v' l', l[i] = Fm.mk o' v' l' := by cases l[i]; exact ⟨_, _, _, rfl⟩
      simp only [go_sem, seval, reduceCtorEq, hg, encF]
      have hab : (ab = τ.next) = False := by simp; omega
      have haτ : τ.get ab = some (.box [.fn 173 [.ptr yb 0, .ptr ab 0]]) := (hk.get ab ha1 ha2).trans ha3
      refine ⟨by omega, WK.seq (WK.reg ?_)⟩
      simp only [go_sem, seval, reduceCtorEq, h2, hab, haτ]
      have hJτ : AllIn id m yb ab (τ.add (.box [.int .i64 o', .int .i64 v', .list false (encFs l')])) := AllIn.kept ⟨⟨hy1, hy2, hy3⟩, ⟨ha1, ha2, ha3⟩⟩ (hk.trans (Kept.add m τ _))
      obtain ⟨τ1, hc, hIc, hkc⟩ := ih l[i] (List.getElem_mem hi) _ _ hJτ (ht.add hIi (.box [.int .i64 o', .int .i64 v', .list false (encFs l')])) hgi (hP.sub hgo hi hgi)
      rw [hg] at hc
      refine callK_gen b173 (args := [encF (.mk o' v' l')]) hc rfl (by simp only [go_sem, seval, reduceCtorEq]) (by simp only [go_sem, seval, reduceCtorEq, encF]) ?_
      simp only [go_sem, seval, reduceCtorEq]
      have hrun : handT step go t (.mk o v l :: nodesL (l.take (i + 1))) = handT step go (handT step go t (.mk o v l :: nodesL (l.take i))) (nodesF l[i]) := by
        have e : (Fm.mk o v l :: nodesL (l.take (i + 1))) = (Fm.mk o v l :: nodesL (l.take i)) ++ nodesF l[i] := by
          simp [hand, nodesL_take l i hi]
        rw [e, handT_append _ _ _ _ _ hgo, if_pos hgi]
      rw [← hrun] at hIc
      have hkk := hk.trans ((Kept.add m τ _).trans hkc)
      by_cases hgc : go (handT step go t (.mk o v l :: nodesL (l.take (i + 1)))) = true
      · refine WK.cond false (by simp only [go_sem, seval, reduceCtorEq]; rw [← hg, ← hrun, hgc]; rfl) (fun h => by cases h) (fun _ => ?_)
        refine WK.skip ?_
        simp only [go_sem, seval, reduceCtorEq]
        exact ⟨by simp [hi1], by simp [hi2], by simp [h2], by simp [h12], hIc, hgc, hkk⟩
      · refine WK.cond true (by simp only [go_sem, seval, reduceCtorEq]; rw [← hg, ← hrun]; simp [hgc]) (fun _ => ?_) (fun h => by cases h)
        refine WK.seq (WK.reg ?_)
        simp only [go_sem, seval, reduceCtorEq]
        refine WK.ret ?_
        have hfin : handT step go t (nodesF (.mk o v l)) = handT step go t (.mk o v l :: nodesL (l.take (i + 1))) := by
          have e : nodesF (.mk o v l) = (Fm.mk o v l :: nodesL (l.take (i + 1))) ++ nodesL (l.drop (i + 1)) := by
            have : ∀ (l : List Fm) (i : Nat), nodesL l = nodesL (l.take i) ++ nodesL (l.drop i) := by
              intro l
              induction l with
              | nil => intro i; simp [nodesL]
              | cons f l ih => intro i; cases i with
                | zero => simp [nodesL]
                | succ i => simp [nodesL, ← ih i]
            simp [nodesF, hand, ← this l (i + 1), ← List.map_append]
          rw [e, handT_append _ _ _ _ _ hgo, if_neg hgc]
        simp only [go_sem, seval, reduceCtorEq]
        rw [hfin]
        exact ⟨by simp [hgc], hIc, hkk⟩
    case done =>
      rintro env τ ⟨h2, h12, hIi, hgi, hk⟩ _ _
      simp only [go_sem, seval, reduceCtorEq]
      refine WK.seq (WK.reg ?_)
      simp only [go_sem, seval, reduceCtorEq]
      refine WK.ret ?_
      rw [List.take_length] at hIi hgi
      simp only [go_sem, seval, reduceCtorEq]
      exact ⟨by simp [nodesF, hgi], hIi, hk⟩
  · refine WK.cond true (by simp only [go_sem, seval, reduceCtorEq, encF] at hg1 ⊢; simp [hg1]) (fun _ => ?_) (fun h => by cases h)
    refine WK.seq (WK.reg ?_)
    simp only [go_sem, seval, reduceCtorEq]
    refine WK.ret ?_
    have hfin : handT step go t (nodesF (.mk o v l)) = step t (.mk o v l) := by
      simp [nodesF, hand, handT, hg1]
    rw [hfin]
    simp only [go_sem, seval, reduceCtorEq]
    exact ⟨by simp [hg1], hI1, hk0⟩

theorem all_ok (ht : TakerP (C gl) id m I step go hand P) (f : Fm) : Shrt f → ∀ (t : T) (σ : Sto), AllIn id m yb ab σ → I t σ → go t = true → Knows step go P t f →
    ∃ σ', CallS (C gl) 173 [encF f, .ptr yb 0, .ptr ab 0] σ (.bool (go (handT step go t (nodesF f)))) σ' ∧ I (handT step go t (nodesF f)) σ' ∧ Kept m σ σ' := by
  induction f using Fm.ind with
  | h o v l ih =>
    intro hs t σ hJ hI hgo hP
    simp only [Shrt] at hs
    exact all_k o v l hs.1 ht (fun g hg => ih g hg (hs.2.mem g hg)) t σ hJ hI hgo hP

/-- The function that Nodes hands back, ranged over. -/
theorem nodesP_ok (f : Fm) (hs : Shrt f) (ht : TakerP (C gl) id m I step go hand P) (fb : Nat) (t : T) (σ : Sto) (hfb : σ.get fb = some (.box (encF f).cells)) (hfn : fb < σ.next) (hI : I t σ) (hgo : go t = true) (hP : Knows step go P t f) :
    ∃ r σ', CallS (C gl) 172 [.yld id, .ptr fb 0] σ r σ' ∧ I (handT step go t (nodesF f)) σ' ∧ Kept m σ σ' := by
  refine call_of (R := fun r σ' => I (handT step go t (nodesF f)) σ' ∧ Kept m σ σ') b172 (by simp [Tryd.ntmps172]) ?_
  have hm := ht.next t σ hI
  refine W.of ?_
  rw [Tryd.ntmps172]
  simp only [toK, codeOf, Tryd.f172, go_sem, seval, reduceCtorEq]
  refine WK.seq (WK.reg ?_)
  simp only [go_sem, seval, reduceCtorEq]
  refine WK.seq (WK.reg ?_)
  simp only [go_sem, seval, reduceCtorEq]
  refine WK.seq (WK.reg ?_)
  simp only [go_sem, seval, reduceCtorEq]
  obtain ⟨o, v, l⟩ := f
  have hne : (fb = σ.next) = False := by simp; omega
  have hne2 : (fb = σ.next + 1) = False := by simp; omega
  refine WK.reg ?_
  simp only [go_sem, seval, reduceCtorEq, hne, hne2, hfb, encF]
  have hJ : AllIn id m σ.next (σ.next + 1) (((σ.add (.box [.yld id])).add (.box [.nilf])).set (σ.next + 1) (.box [.fn 173 [.ptr σ.next 0, .ptr (σ.next + 1) 0]])) := by
    refine ⟨⟨hm, ?_, ?_⟩, ⟨by omega, ?_, ?_⟩⟩ <;> simp [Sto.get_add, Sto.get_set, Sto.next_add, Sto.next_set] <;> omega
  obtain ⟨σ', h1, h2, h3⟩ := all_ok ht (.mk o v l) hs t _ hJ (ht.set (ht.add (ht.add hI _) _) (σ.next + 1) _ (by omega)) hgo hP
  refine callK_gen b173 (args := [encF (.mk o v l)]) h1 rfl (by simp only [go_sem, seval, reduceCtorEq]) (by simp only [go_sem, seval, reduceCtorEq, encF]) ?_
  simp only [go_sem, seval, reduceCtorEq]
  exact ⟨h2, (Kept.set ((Kept.add m σ _).trans (Kept.add m _ _)) _ _ (by omega)).trans h3⟩
theorem nodes1_ok (f : Fm) (hs : Shrt f) (ht : Taker (C gl) id m I step go hand (nodesF f)) (fb : Nat) (t : T) (σ : Sto) (hfb : σ.get fb = some (.box (encF f).cells)) (hfn : fb < σ.next) (hI : I t σ) (hgo : go t = true) :
    ∃ r σ', CallS (C gl) 172 [.yld id, .ptr fb 0] σ r σ' ∧ I (handT step go t (nodesF f)) σ' ∧ Kept m σ σ' :=
  nodesP_ok (P := fun _ x => x ∈ nodesF f) f hs ⟨ht.lt, ht.stable, ht.next, ht.take⟩ fb t σ hfb hfn hI hgo fun p x q h _ => by rw [h]; simp
end

/-- Nodes: a function over a new variable that holds the formula. -/
theorem nodes_ok {gl : GL} (f : Fm) (σ : Sto) : CallS (C gl) 111 [encF f] σ (.fn 172 [.ptr σ.next 0]) (σ.add (.box (encF f).cells)) := by
  suffices h : ∃ r σ', CallS (C gl) 111 [encF f] σ r σ' ∧ (r = .fn 172 [.ptr σ.next 0] ∧ σ' = σ.add (.box (encF f).cells)) by
    obtain ⟨r, σ', h1, rfl, rfl⟩ := h; exact h1
  refine call_of (R := fun r σ' => r = .fn 172 [.ptr σ.next 0] ∧ σ' = σ.add (.box (encF f).cells)) b111 (by simp [Tryd.ntmps111]) ?_
  obtain ⟨o, v, l⟩ := f
  refine W.of ?_
  rw [Tryd.ntmps111]
  simp only [toK, codeOf, Tryd.f111, go_sem, seval, reduceCtorEq]
  refine WK.seq (WK.reg ?_)
  simp only [go_sem, seval, reduceCtorEq, encF]
  refine WK.seq (WK.reg ?_)
  simp only [go_sem, seval, reduceCtorEq]
  refine WK.ret ?_
  simp only [go_sem, seval, reduceCtorEq]
end Go.Sx
