import Derived.Test.YtndchmmclfidgaaDoorRgF
import Derived.Test.YtndchmmclfidgaaDoorLgAw
import Derived.Test.YtndchmmclfidgaaDoorGxE
import Derived.Test.YtndchmmclfidgaaDoorRfJ
set_option maxRecDepth 100000
set_option linter.unusedSimpArgs false
set_option linter.unusedVariables false
set_option linter.unnecessarySimpa false
namespace Go.Sx
open Go Go.Lg Go.Proofs
def Pl.eqb (p q : Pl) : Bool := p.bg == q.bg && (p.fr == q.fr && (p.lt == q.lt && p.gl == q.gl))
theorem eqb_iff {p q : Pl} : p.eqb q = true ↔ p = q := by
  obtain ⟨a1, a2, a3, a4⟩ := p
  obtain ⟨b1, b2, b3, b4⟩ := q
  unfold Pl.eqb
  simp only [Bool.and_eq_true, beq_iff_eq, Pl.mk.injEq]
theorem int_beq (m n : Nat) : (((m : Nat) : Int) == (n : Int)) = (m == n) := by
  rw [Bool.eq_iff_iff, beq_iff_eq, beq_iff_eq]; omega
theorem peq_pl (p q : Pl) : (encPl p).peq (encPl q) = p.eqb q := by
  show peqL (plCells p) (plCells q) = _
  simp only [plCells, peqL, peq1, Pl.eqb, Bool.and_true, int_beq]
def fnd : List Pl → Pl → Option Nat
  | [], _ => none
  | p :: ps, q => if q.eqb p = true then some 0 else (fnd ps q).map (· + 1)
theorem fnd_some {q : Pl} : ∀ {ps : List Pl} {i : Nat}, fnd ps q = some i → ps[i]? = some q
  | [], i, h => by cases h
  | p :: ps, i, h => by
    unfold fnd at h
    split at h
    · rename_i e
      cases h
      rw [eqb_iff.1 e]; rfl
    · obtain ⟨j, h1, rfl⟩ := Option.map_eq_some_iff.1 h
      rw [List.getElem?_cons_succ]
      exact fnd_some h1
theorem fnd_none {q : Pl} : ∀ {ps : List Pl}, fnd ps q = none → q ∉ ps
  | [], _, h => by cases h
  | p :: ps, h, hm => by
    unfold fnd at h
    split at h
    · cases h
    · rename_i e
      rw [Option.map_eq_none_iff] at h
      rcases List.mem_cons.1 hm with hm | hm
      · exact e (eqb_iff.2 hm)
      · exact fnd_none h hm
theorem fnd_snoc {q : Pl} : ∀ {ps : List Pl}, fnd ps q = none → fnd (ps ++ [q]) q = some ps.length
  | [], _ => by
    show (if q.eqb q = true then some 0 else _) = _
    rw [if_pos (eqb_iff.2 rfl)]; rfl
  | p :: ps, h => by
    unfold fnd at h
    split at h
    · cases h
    · rename_i e
      rw [Option.map_eq_none_iff] at h
      rw [List.cons_append]
      unfold fnd
      rw [if_neg e, fnd_snoc h]; rfl
def mapF : List Pl → Nat → List (AV × AV)
  | [], _ => []
  | p :: ps, n => (encPl p, .int .i64 (n : Nat)) :: mapF ps (n + 1)
theorem mapF_get (q : Pl) : ∀ (ps : List Pl) (n : Nat), mget (encPl q) (mapF ps n) = (fnd ps q).map fun i => .int .i64 ((n + i : Nat) : Int)
  | [], _ => rfl
  | p :: ps, n => by
    unfold mapF fnd
    rw [mget_cons, peq_pl]
    split
    · rfl
    · rw [mapF_get q ps (n + 1)]
      cases fnd ps q with
      | none => rfl
      | some i => simp only [Option.map_some]; rw [show n + 1 + i = n + (i + 1) by omega]
theorem mapF_put {q : Pl} : ∀ {ps : List Pl} (n : Nat), fnd ps q = none → mput (encPl q) (.int .i64 ((n + ps.length : Nat) : Int)) (mapF ps n) = mapF (ps ++ [q]) n
  | [], n, _ => rfl
  | p :: ps, n, h => by
    unfold fnd at h
    split at h
    · cases h
    · rename_i e
      rw [Option.map_eq_none_iff] at h
      rw [List.cons_append]
      unfold mapF
      rw [mput_cons, peq_pl, if_neg e, ← mapF_put (n + 1) h]
      rw [List.length_cons, show n + (ps.length + 1) = n + 1 + ps.length by omega]
theorem sing_nd {A : Type} (x : A) : [x].Nodup := List.nodup_cons.2 ⟨(fun h => by cases h), List.nodup_nil⟩
noncomputable def stG (c : Ct) (a b : Nat) (z : BitVec 64) (p : Pl) (s : List Pl × List Nat × List Nat) (i : Nat) : List Pl × List Nat × List Nat :=
  match fnd s.1 (nxP c a b z p i).2 with
  | some j => (s.1, s.2.1 ++ [(nxP c a b z p i).1], s.2.2 ++ [j])
  | none => (s.1 ++ [(nxP c a b z p i).2], s.2.1 ++ [(nxP c a b z p i).1], s.2.2 ++ [s.1.length])
noncomputable def rdG (c : Ct) (a b : Nat) (z : BitVec 64) (p : Pl) (ps : List Pl) : Nat → List Pl × List Nat × List Nat
  | 0 => (ps, [], [])
  | i + 1 => stG c a b z p (rdG c a b z p ps i) i
def PlOK (n L : Nat) (p : Pl) : Prop := p = .begin ∨ p = .free ∨ ∃ l g, p = ⟨false, false, l, g⟩ ∧ l < n ∧ g < L
structure RdI (c : Ct) (a b : Nat) (z : BitVec 64) (p : Pl) (ps : List Pl) (i : Nat) (s : List Pl × List Nat × List Nat) : Prop where
  pre : ∃ r, s.1 = ps ++ r
  nd : s.1.Nodup
  ok : ∀ q ∈ s.1, PlOK (2 ^ (a + b)) (tab c a b).js.length q
  an : s.2.1 = (List.range i).map fun i => (nxP c a b z p i).1
  nl : s.2.2.length = i
  nx : ∀ i', i' < i → ∃ j, s.2.2[i']? = some j ∧ s.1[j]? = some (nxP c a b z p i').2
theorem nx_ok {c : Ct} {a b : Nat} (ho : OkC c a b) {z : BitVec 64} {p : Pl} {L : Nat} (hL : L = (tab c a b).js.length) (hp : PlOK (2 ^ (a + b)) L p) {i : Nat} (hi : i < 2 ^ a) : PlOK (2 ^ (a + b)) L (nxP c a b z p i).2 := by
  unfold nxP
  split
  · rename_i h
    obtain ⟨h1, h2⟩ := low_in h.2
    obtain ⟨o, h3, h4⟩ := lts_get ho hi h2
    refine .inr (.inr ⟨_, _, rfl, by rw [h4]; exact idx_lt hi h3, ?_⟩)
    unfold goalP
    have hLp : 0 < L := by rw [hL]; exact js_ne
    split
    · exact hLp
    · rename_i hn
      rcases hp with rfl | rfl | ⟨l, g, rfl, h1, h2⟩
      · exact absurd (.inl rfl) hn
      · exact absurd (.inr rfl) hn
      · unfold tgt
        split
        · rw [← hL]; exact Nat.mod_lt _ hLp
        · exact h2
  · exact .inr (.inl rfl)
theorem rd_inv {c : Ct} {a b : Nat} (ho : OkC c a b) {z : BitVec 64} {p : Pl} {ps : List Pl} (hp : PlOK (2 ^ (a + b)) (tab c a b).js.length p) (hnd : ps.Nodup) (hok : ∀ q ∈ ps, PlOK (2 ^ (a + b)) (tab c a b).js.length q) : ∀ i, i ≤ 2 ^ a → RdI c a b z p ps i (rdG c a b z p ps i)
  | 0, _ => ⟨⟨[], (List.append_nil _).symm⟩, hnd, hok, rfl, rfl, fun i' h => absurd h (Nat.not_lt_zero _)⟩
  | i + 1, hi => by
    obtain ⟨⟨r, h1⟩, h2, h3, h4, h5, h6⟩ := rd_inv ho hp hnd hok i (by omega)
    have hq := nx_ok ho (z := z) rfl hp (i := i) (by omega)
    show RdI c a b z p ps (i + 1) (stG c a b z p (rdG c a b z p ps i) i)
    unfold stG
    generalize rdG c a b z p ps i = s at *
    have ha : s.2.1 ++ [(nxP c a b z p i).1] = (List.range (i + 1)).map fun i => (nxP c a b z p i).1 := by rw [h4, List.range_succ, List.map_append]; rfl
    cases e : fnd s.1 (nxP c a b z p i).2 with
    | some j =>
      have hj := fnd_some e
      refine ⟨⟨r, h1⟩, h2, h3, ha, by simp [h5], fun i' hi' => ?_⟩
      rcases Nat.lt_succ_iff_lt_or_eq.1 hi' with hi' | rfl
      · obtain ⟨j', g1, g2⟩ := h6 i' hi'
        exact ⟨j', by simp only; rw [List.getElem?_append_left (by omega)]; exact g1, g2⟩
      · exact ⟨j, by simp only; rw [List.getElem?_append_right (by omega), h5]; simp, hj⟩
    | none =>
      have hn := fnd_none e
      refine ⟨⟨r ++ [(nxP c a b z p i).2], by simp only; rw [h1, List.append_assoc]⟩, ?_, fun q hq' => ?_, ha, by simp [h5], fun i' hi' => ?_⟩
      · simp only
        rw [List.nodup_append]
        refine ⟨h2, sing_nd _, fun x hx y hy => ?_⟩
        rw [List.mem_singleton.1 hy]
        exact fun e => hn (e ▸ hx)
      · rcases List.mem_append.1 hq' with hq' | hq'
        · exact h3 q hq'
        · rw [List.mem_singleton.1 hq']; exact hq
      · rcases Nat.lt_succ_iff_lt_or_eq.1 hi' with hi' | rfl
        · obtain ⟨j', g1, g2⟩ := h6 i' hi'
          have := (List.getElem?_eq_some_iff.1 g2).1
          exact ⟨j', by simp only; rw [List.getElem?_append_left (by omega)]; exact g1, by simp only; rw [List.getElem?_append_left this]; exact g2⟩
        · exact ⟨s.1.length, by simp only; rw [List.getElem?_append_right (by omega), h5]; simp, by simp⟩
structure OutI (c : Ct) (a b : Nat) (z : BitVec 64) (ps : List Pl) (A X : List (List Nat)) : Prop where
  z0 : ps[0]? = some .begin
  al : A.length ≤ ps.length
  xl : X.length = A.length
  nd : ps.Nodup
  ok : ∀ q ∈ ps, PlOK (2 ^ (a + b)) (tab c a b).js.length q
  row : ∀ (q : Nat) (p : Pl), q < A.length → ps[q]? = some p → A.getD q [] = (List.range (2 ^ a)).map fun i => (nxP c a b z p i).1
  nrow : ∀ q, q < A.length → (X.getD q []).length = 2 ^ a
  nx : ∀ (q : Nat) (p : Pl), q < A.length → ps[q]? = some p → ∀ i, i < 2 ^ a → ∃ j, (X.getD q [])[i]? = some j ∧ ps[j]? = some (nxP c a b z p i).2
theorem out_start {c : Ct} {a b : Nat} {z : BitVec 64} : OutI c a b z [.begin] [] [] :=
  ⟨rfl, Nat.zero_le _, rfl, sing_nd _, fun q hq => .inl (List.mem_singleton.1 hq), fun q p h => absurd h (Nat.not_lt_zero _), fun q h => absurd h (Nat.not_lt_zero _), fun q p h => absurd h (Nat.not_lt_zero _)⟩
theorem pl_mem {ps : List Pl} {q : Nat} {p : Pl} (h : ps[q]? = some p) : p ∈ ps := List.mem_of_getElem? h
theorem out_step {c : Ct} {a b : Nat} (ho : OkC c a b) {z : BitVec 64} {ps : List Pl} {A X : List (List Nat)} (h : OutI c a b z ps A X) {p : Pl} (hp : ps[A.length]? = some p) :
    OutI c a b z (rdG c a b z p ps (2 ^ a)).1 (A ++ [(rdG c a b z p ps (2 ^ a)).2.1]) (X ++ [(rdG c a b z p ps (2 ^ a)).2.2]) := by
  obtain ⟨⟨r, h1⟩, h2, h3, h4, h5, h6⟩ := rd_inv ho (z := z) (h.ok p (pl_mem hp)) h.nd h.ok (2 ^ a) (Nat.le_refl _)
  generalize rdG c a b z p ps (2 ^ a) = s at *
  have hlt := (List.getElem?_eq_some_iff.1 hp).1
  have keep : ∀ {k : Nat} {q : Pl}, ps[k]? = some q → s.1[k]? = some q := fun {k q} hk => by
    rw [h1, List.getElem?_append_left (List.getElem?_eq_some_iff.1 hk).1]; exact hk
  have back : ∀ {k : Nat} {q : Pl}, k < ps.length → s.1[k]? = some q → ps[k]? = some q := fun {k q} hk hq => by
    rw [h1, List.getElem?_append_left hk] at hq; exact hq
  have hxl := h.xl
  refine ⟨keep h.z0, by rw [List.length_append, h1, List.length_append]; simp; omega, by simp [hxl], h2, h3, fun q p' hq hp' => ?_, fun q hq => ?_, fun q p' hq hp' i hi => ?_⟩
  · rw [List.length_append, List.length_singleton] at hq
    have hp2 := back (by omega) hp'
    rcases Nat.lt_succ_iff_lt_or_eq.1 hq with hq | rfl
    · rw [List.getD_eq_getElem?_getD, List.getElem?_append_left hq, ← List.getD_eq_getElem?_getD]; exact h.row q p' hq hp2
    · rw [hp] at hp2; cases hp2
      rw [List.getD_eq_getElem?_getD, List.getElem?_append_right (Nat.le_refl _), Nat.sub_self]; exact h4
  · rw [List.length_append, List.length_singleton] at hq
    rcases Nat.lt_succ_iff_lt_or_eq.1 hq with hq | rfl
    · rw [List.getD_eq_getElem?_getD, List.getElem?_append_left (by omega), ← List.getD_eq_getElem?_getD]; exact h.nrow q hq
    · rw [List.getD_eq_getElem?_getD, List.getElem?_append_right (by omega), hxl, Nat.sub_self]; exact h5
  · rw [List.length_append, List.length_singleton] at hq
    have hp2 := back (by omega) hp'
    rcases Nat.lt_succ_iff_lt_or_eq.1 hq with hq | rfl
    · obtain ⟨j, g1, g2⟩ := h.nx q p' hq hp2 i hi
      exact ⟨j, by rw [List.getD_eq_getElem?_getD, List.getElem?_append_left (by omega), ← List.getD_eq_getElem?_getD]; exact g1, keep g2⟩
    · rw [hp] at hp2; cases hp2
      obtain ⟨j, g1, g2⟩ := h6 i hi
      exact ⟨j, by rw [List.getD_eq_getElem?_getD, List.getElem?_append_right (by omega), hxl, Nat.sub_self]; exact g1, g2⟩
theorem nodup_len : ∀ (n : Nat) (l : List Nat), l.Nodup → (∀ x ∈ l, x < n) → l.length ≤ n
  | 0, l, _, h => by
    cases l with
    | nil => exact Nat.le_refl _
    | cons x l => exact absurd (h x List.mem_cons_self) (Nat.not_lt_zero _)
  | n + 1, l, hd, h => by
    have h1 := nodup_len n (l.erase n) (hd.erase n) fun x hx => by
      have := (hd.mem_erase_iff).1 hx
      have := h x this.2
      omega
    by_cases hm : n ∈ l
    · rw [List.length_erase_of_mem hm] at h1; omega
    · rw [List.erase_of_not_mem hm] at h1; omega
def codP (L : Nat) (p : Pl) : Nat := if p.bg = true then 0 else if p.fr = true then 1 else 2 + (p.lt * L + p.gl)
theorem cod_inj {n L : Nat} {p q : Pl} (hp : PlOK n L p) (hq : PlOK n L q) (h : codP L p = codP L q) : p = q := by
  have key : ∀ {l g l' g' : Nat}, g < L → g' < L → 2 + (l * L + g) = 2 + (l' * L + g') → l = l' ∧ g = g' := fun {l g l' g'} h1 h2 h3 => by
    have h3 : l * L + g = l' * L + g' := by omega
    have e1 : (l * L + g) % L = g := by rw [Nat.add_comm, Nat.add_mul_mod_self_right, Nat.mod_eq_of_lt h1]
    have e2 : (l' * L + g') % L = g' := by rw [Nat.add_comm, Nat.add_mul_mod_self_right, Nat.mod_eq_of_lt h2]
    have e3 : g = g' := by rw [h3] at e1; exact e1.symm.trans e2
    subst e3
    exact ⟨Nat.eq_of_mul_eq_mul_right (show 0 < L by omega) (Nat.add_right_cancel h3), rfl⟩
  rcases hp with rfl | rfl | ⟨l, g, rfl, h1, h2⟩ <;> rcases hq with rfl | rfl | ⟨l', g', rfl, h1', h2'⟩ <;> simp only [codP, Pl.begin, Pl.free, if_true, Bool.false_eq_true, if_false] at h ⊢ <;> first | rfl | omega | skip
  obtain ⟨rfl, rfl⟩ := key h2 h2' h
  rfl
theorem cod_lt {n L : Nat} {p : Pl} (hp : PlOK n L p) : codP L p < 2 + n * L := by
  rcases hp with rfl | rfl | ⟨l, g, rfl, h1, h2⟩
  · simp only [codP, Pl.begin, if_true]; omega
  · simp only [codP, Pl.free, if_true, Bool.false_eq_true, if_false]; omega
  · simp only [codP, Bool.false_eq_true, if_false]
    have := Nat.mul_le_mul_right L (Nat.succ_le_of_lt h1)
    rw [Nat.succ_mul] at this; omega
theorem nodup_map {A B : Type} {f : A → B} : ∀ {l : List A}, l.Nodup → (∀ x ∈ l, ∀ y ∈ l, f x = f y → x = y) → (l.map f).Nodup
  | [], _, _ => List.nodup_nil
  | x :: l, h, hi => by
    rw [List.nodup_cons] at h
    rw [List.map_cons, List.nodup_cons]
    refine ⟨fun hm => ?_, nodup_map h.2 fun a ha b hb => hi a (List.mem_cons_of_mem _ ha) b (List.mem_cons_of_mem _ hb)⟩
    obtain ⟨y, hy, e⟩ := List.mem_map.1 hm
    exact h.1 (hi y (List.mem_cons_of_mem _ hy) x List.mem_cons_self e ▸ hy)
theorem few_pl {n L : Nat} {ps : List Pl} (hd : ps.Nodup) (hok : ∀ q ∈ ps, PlOK n L q) : ps.length ≤ 2 + n * L := by
  have := nodup_len (2 + n * L) (ps.map (codP L)) (nodup_map hd fun x hx y hy e => cod_inj (hok x hx) (hok y hy) e) fun x hx => by
    obtain ⟨q, hq, rfl⟩ := List.mem_map.1 hx
    exact cod_lt (hok q hq)
  rwa [List.length_map] at this
theorem few_len {c : Ct} {a b : Nat} (ho : OkC c a b) {ps : List Pl} (h1 : ps.Nodup) (h2 : ∀ q ∈ ps, PlOK (2 ^ (a + b)) (tab c a b).js.length q) : ps.length ≤ 1000 := by
  have h1 := few_pl h1 h2
  have h64 := n64 ho.v.toCtOK
  have hL : (tab c a b).js.length ≤ 12 := by
    show ((orTrue c.js).map _).length ≤ 12
    rw [List.length_map]
    unfold orTrue
    have := ho.l
    split
    · simp
    · omega
  have := Nat.mul_le_mul h64 hL
  omega
theorem out_few {c : Ct} {a b : Nat} (ho : OkC c a b) {z : BitVec 64} {ps : List Pl} {A X : List (List Nat)} (h : OutI c a b z ps A X) : ps.length ≤ 1000 := few_len ho h.nd h.ok
def mcG (a b : Nat) (A X : List (List Nat)) : Mc := ⟨a, b, A.map fun r => r.map fun k : Nat => (k : Int), X.map fun r => r.map fun k : Nat => (k : Int)⟩
theorem out_mc {c : Ct} {a b : Nat} (ho : OkC c a b) {ps : List Pl} {A X : List (List Nat)} (h : OutI c a b (wonB (tab c a b)) ps A X) (he : A.length = ps.length) : IsMc c a b (mcG a b A X) ps := by
  have gA : ∀ q, (mcG a b A X).ans.getD q [] = (A.getD q []).map fun k : Nat => (k : Int) := fun q => by
    show (A.map _).getD q [] = _
    rw [List.getD_eq_getElem?_getD, List.getElem?_map, List.getD_eq_getElem?_getD]
    cases A[q]? <;> rfl
  have gX : ∀ q, (mcG a b A X).nxt.getD q [] = (X.getD q []).map fun k : Nat => (k : Int) := fun q => by
    show (X.map _).getD q [] = _
    rw [List.getD_eq_getElem?_getD, List.getElem?_map, List.getD_eq_getElem?_getD]
    cases X[q]? <;> rfl
  have hlt : ∀ {q : Nat} {p : Pl}, ps[q]? = some p → q < A.length := fun {q p} hq => by rw [he]; exact (List.getElem?_eq_some_iff.1 hq).1
  refine ⟨rfl, rfl, h.z0, by show (A.map _).length = _; rw [List.length_map, he], by show (X.map _).length = _; rw [List.length_map, h.xl, he], by have := out_few ho h; omega, fun q p hq => ?_, fun q p hq => ?_, fun q p hq i hi => ?_⟩
  · rw [gA, h.row q p (hlt hq) hq, List.map_map]; rfl
  · rw [gX, List.length_map]; exact h.nrow q (hlt hq)
  · obtain ⟨j, g1, g2⟩ := h.nx q p (hlt hq) hq i hi
    refine ⟨j, (List.getElem?_eq_some_iff.1 g2).1, ?_, g2⟩
    unfold at2
    rw [gX, List.getD_eq_getElem?_getD, List.getElem?_map, g1]; rfl
end Go.Sx
set_option maxHeartbeats 4000000
namespace Go.Sx
open Go Go.Lg Go.Proofs
theorem ct_al (c : Ct) : (ctCells c).all AV.one = true := by cases c; rfl
noncomputable def lvL (t : Tb) (z j : BitVec 64) : List (BitVec 64 × List (BitVec 64)) := (List.range (mL t z j + 1)).map (lvE t z j)
theorem keyOK_pl' {gl : GL} : KeyOK (C gl) 120 (.agg [.bool false, .bool false, .int .i64 0, .int .i64 0]) = True := eq_true keyOK_pl
section
variable {gl : GL}
theorem next_ok (tid : Nat) (z : BitVec 64) (lvs : List (List (BitVec 64 × List (BitVec 64)))) (p : Pl) (σ : Sto) (ht : tid < σ.next) :
    CallX (C gl) 93 [.agg (stCells tid z lvs), encPl p] σ (.fn 151 [.ptr (σ.next + 1) 0, .ptr σ.next 0]) ((σ.add (.box (stCells tid z lvs))).add (.box (plCells p))) := by
  refine callX_of b93 (by simp [Tryd.ntmps93]) ?_
  refine W.of ?_
  rw [Tryd.ntmps93]
  simp only [toK, codeOf, Tryd.f93, go_sem, seval, reduceCtorEq]
  have H := And.intro @stCells_eq (And.intro @encPl_eq @plCells_eq)
  refine autoA ?_
  try exact trivial
  exact cutA
end
theorem belO_mapF {m : Nat} : ∀ (ps : List Pl) (n : Nat), BelO m (.mp (mapF ps n)) = True
  | [], _ => eq_true fun e h => by cases h
  | p :: ps, n => eq_true fun e h => by
    rcases List.mem_cons.1 h with rfl | h
    · exact .int _ _
    · exact of_eq_true (belO_mapF ps (n + 1)) e h
attribute [go_sem] belO_mapF
theorem keptX_pk {env : Env} {ts : List Nat} : ∀ {us : List Nat}, (∀ t ∈ us, t ∈ ts) → keptX (pick env ts) env us
  | [], _ => trivial
  | u :: us, h => ⟨by rw [pick_at (h u List.mem_cons_self)]; exact .refl _, keptX_pk fun t ht => h t (List.mem_cons_of_mem _ ht)⟩
def bdP (L : LoopI) (id : Nat) (S' σ' σ2 : Sto) : Prop := (∃ pe2, σ2.get id = some (.loop L .busy pe2)) ∧ id < σ2.next ∧ (∀ i, i < id → σ2.get i = S'.get i) ∧ Kept (id + 1) σ' σ2
def bdQ (L : LoopI) (id : Nat) (S' σ' : Sto) : Exit → Env → Sto → Prop
  | .normal => fun _ σ2 => bdP L id S' σ' σ2
  | _ => fun _ _ => False
theorem bdQ_normal {L : LoopI} {id : Nat} {S' σ' : Sto} : bdQ L id S' σ' .normal = fun _ σ2 => bdP L id S' σ' σ2 := (rfl)
attribute [go_sem] bdQ_normal
section
variable {gl : GL}
theorem rnd_of {nt : Nat} {env : Env} {L : LoopI} {ps : Array Tmp} {assign body : Code} {id : Nat} {xs : List AV} {S' σ' : Sto} (hLn : L.nt = nt) (hLe : L.env = env) (hLp : L.ps = ps) (hLa : toK L.assign = toK assign) (hLb : toK L.body = toK body)
    (hps : xs.length = ps.size) (hl : σ'.get id = some (.loop L .ready none)) (hid : id < σ'.next)
    (h : WK (C gl) (some id) nt (toK assign) (fun e env1 σ1 => e = .normal ∧ σ1.get id = some (.loop L .ready none) ∧ WK (C gl) (some id) nt (toK body) (bdQ L id S' σ') env1 (σ1.set id (.loop L .busy none))) (bindP env ps.toList xs) σ') :
    ∃ σ2, YStep (C gl) id xs σ' true σ2 ∧ (id < σ2.next ∧ (∀ i, i < id → σ2.get i = S'.get i) ∧ σ2.get id = some (.loop L .ready none)) ∧ Kept (id + 1) σ' σ2 := by
  have key : ∃ b σ2, YStep (C gl) id xs σ' b σ2 ∧ (b = true ∧ (id < σ2.next ∧ (∀ i, i < id → σ2.get i = S'.get i) ∧ σ2.get id = some (.loop L .ready none)) ∧ Kept (id + 1) σ' σ2) := by
    refine yStep_of hl (by rw [hLp]; exact hps) ?_
    rw [hLa, hLb, hLn, hLe, hLp]
    refine h.mono fun e env1 σ1 ⟨h1, h2, h3⟩ => ⟨h1, none, h2, h3.mono fun e2 env2 σ2 h4 => ?_⟩
    cases e2 with
    | normal =>
      obtain ⟨k1, k2, k3, k4⟩ := h4
      refine ⟨k1, none, rfl, rfl, ⟨by rw [Sto.next_set]; exact k2, fun i hi => by rw [Sto.get_set, if_neg (by omega)]; exact k3 i hi, ?_⟩, ⟨fun i q1 q2 => ?_, by rw [Sto.next_set]; exact k4.next⟩⟩
      · rw [Sto.get_set, if_pos rfl]; rfl
      · rw [Sto.get_set, if_neg (by omega)]; exact k4.get i q1 q2
    | _ => exact h4.elim
  obtain ⟨b, σ2, h1, rfl, h2⟩ := key
  exact ⟨σ2, h1, h2⟩
end
section
variable {gl : GL} (hdb : gl.at' 4 = dbA)
include hdb
theorem WK.forNext {nt B : Nat} {Q : Exit → Env → Sto → Prop} {env : Env} {σ : Sto} {g : Operand} {ps : Array Tmp} {assign body : Code} {y : K} (ts : List Nat) (c : Ct) (a b : Nat) (hc : CtOK c a b) (z : BitVec 64) (lvs : List (List (BitVec 64 × List (BitVec 64)))) (p : Pl) (m tid pb sb : Nat)
    (hp : p.bg = false → p.fr = false → p.lt < 2 ^ (a + b) ∧ ∃ h : p.gl < (tab c a b).js.length, ∃ h2 : p.gl < lvs.length, lvs[p.gl] = (List.range (mL (tab c a b) z (tab c a b).js[p.gl] + 1)).map (lvE (tab c a b) z (tab c a b).js[p.gl]) ∧ mL (tab c a b) z (tab c a b).js[p.gl] < 67)
    (S : Nat → Sto) (hm : σ.next = m) (hlt : tid < m ∧ pb < m ∧ sb < m)
    (hg : ev (C gl) nt env g = .fn 151 [.ptr pb 0, .ptr sb 0]) (hps : ps.size = 2)
    (hS : S 0 = σ) (hSn : ∀ k, (S k).next = m) (hat : ∀ k, (S k).get pb = some (.box (plCells p)) ∧ (S k).get sb = some (.box (stCells tid z lvs)) ∧ (S k).get tid = some (.box (tbCells (tab c a b)))) (hcut : Cut σ (S (2 ^ a)) (S (2 ^ a)))
    (hbody : ∀ (L : LoopI) (k : Nat) (σ' : Sto), k < 2 ^ a → m < σ'.next → (∀ i, i < m → σ'.get i = (S k).get i) → σ'.get m = some (.loop L .ready none) →
      WK (C gl) (some m) nt (toK assign) (fun e env1 σ1 => e = .normal ∧ σ1.get m = some (.loop L .ready none) ∧ WK (C gl) (some m) nt (toK body) (bdQ L m (S (k + 1)) σ') env1 (σ1.set m (.loop L .busy none))) (bindP env ps.toList [.int .i64 ((nxP c a b z p k).1 : Nat), encPl (nxP c a b z p k).2]) σ')
    (hdone : WK (C gl) none nt y Q (envX env ts [] []) (S (2 ^ a))) :
    WK (C gl) none nt (.block B (.oth (.rangeFunc g ps assign body))) (andK (C gl) none nt y Q) env σ := by
  subst hm
  refine WK.joinB ts [] [] (S (2 ^ a)) (WK.block (WK.rangeFunc hg b151 (fun _ h => by cases h) ?_)) hdone
  intro L hLn hLe hLp hLa hLb
  obtain ⟨l1, l2, l3⟩ := hlt
  let I : Nat → Sto → Prop := fun k σ' => σ.next + 1 ≤ σ'.next ∧ (∀ i, i < σ.next → σ'.get i = (S k).get i) ∧ σ'.get σ.next = some (.loop L .ready none)
  refine Go.Lg.ex2 (nextp_ok hdb c a b hc z lvs p σ.next (σ.next + 1) tid pb sb I ⟨by omega, by omega, by omega, by omega⟩ hp ?_ ?_ ?_ _ ?_) ?_
  · rintro k τ τ' ⟨i1, i2, i3⟩ hk hn
    exact ⟨hn, fun i hi => (hk i (by omega)).trans (i2 i hi), (hk _ (Nat.lt_succ_self _)).trans i3⟩
  · rintro k τ ⟨i1, i2, i3⟩
    obtain ⟨h1, h2, h3⟩ := hat k
    exact ⟨i1, by rw [i2 pb l2]; exact h1, by rw [i2 sb l3]; exact h2, by rw [i2 tid l1]; exact h3⟩
  · rintro k τ hk ⟨i1, i2, i3⟩
    obtain ⟨σ2, k1, k2, k3⟩ := rnd_of hLn hLe hLp hLa hLb (by rw [hps]; rfl) i3 (by omega) (hbody L k τ hk (by omega) i2 i3)
    exact ⟨σ2, k1, ⟨k2.1, k2.2⟩, k3⟩
  · refine ⟨by rw [Sto.next_add]; omega, fun i hi => by rw [Sto.get_add, if_neg (by omega), hS], ?_⟩
    rw [Sto.get_add, if_pos rfl]
  rintro σ1 ⟨⟨g1, g2, g3⟩, g4⟩
  refine ⟨_, _, .normal, g3, by decide, rfl, ?_⟩
  rw [inBlk_normal, joinQ1_normal]
  have hn' := hSn (2 ^ a)
  refine ⟨keptX_pk fun t h => h, trivial, ⟨hcut.n1, by rw [Sto.next_del, hn']; omega, hcut.hi, fun i o hi ho => ?_⟩⟩
  obtain ⟨⟨o', ho', hle⟩, k2⟩ := hcut.lo i o hi ho
  exact ⟨⟨o', by rw [Sto.get_del, if_neg (by omega), g2 i (by omega)]; exact ho', hle⟩, k2⟩
end
def natL (r : List Nat) : AV := .list false (r.map fun k : Nat => .int .i64 (k : Int))
def mS (c : Ct) (t : Tb) (z : BitVec 64) (lvs : List (List (BitVec 64 × List (BitVec 64)))) (a b : Nat) (ps : List Pl) (A X : List (List Nat)) : Sto :=
  (((((((((((((Sto.none.add (.box (ctCells c))).add (.box [.int .i64 0, .int .i64 0, .list true [], .list true []])).add (.box (ctCells c))).add (.box (tbCells t))).add (.box [.ptr 3 0, .int .u64 (uB z), .list false (lvs.map encLs)])).add (.tok 1 t.js.length)).add
    (.box [.bool true, .bool false, .int .i64 0, .int .i64 0])).add (.mp (mapF ps 0))).add (.box [.map 7])).add (.box [.own 11 (ps.map encPl)])).add (.box [.int .i64 a, .int .i64 b, .own 12 (A.map natL), .own 13 (X.map natL)])).add
    (.tok 4 ps.length)).add (.tok 1 A.length)).add (.tok 1 X.length)
def iS (c : Ct) (t : Tb) (z : BitVec 64) (lvs : List (List (BitVec 64 × List (BitVec 64)))) (a b : Nat) (A X : List (List Nat)) (p : Pl) (s : List Pl × List Nat × List Nat) : Sto :=
  ((((((mS c t z lvs a b s.1 A X).add (.box [.own 18 (s.2.1.map fun k : Nat => .int .i64 (k : Int))])).add (.box [.own 19 (s.2.2.map fun k : Nat => .int .i64 (k : Int))])).add (.box (stCells 3 z lvs))).add (.box (plCells p))).add (.tok 1 s.2.1.length)).add (.tok 1 s.2.2.length)
noncomputable def goG (c : Ct) (a b : Nat) (z : BitVec 64) : Nat → List Pl × List (List Nat) × List (List Nat) → List Pl × List (List Nat) × List (List Nat)
  | 0, s => s
  | n + 1, s => match s.1[s.2.1.length]? with
    | none => s
    | some p => goG c a b z n ((rdG c a b z p s.1 (2 ^ a)).1, s.2.1 ++ [(rdG c a b z p s.1 (2 ^ a)).2.1], s.2.2 ++ [(rdG c a b z p s.1 (2 ^ a)).2.2])
noncomputable def finG (c : Ct) (a b : Nat) (z : BitVec 64) : List Pl × List (List Nat) × List (List Nat) := goG c a b z 1001 ([.begin], [], [])
noncomputable def mchG (c : Ct) (a b : Nat) : Mc := mcG a b (finG c a b (wonB (tab c a b))).2.1 (finG c a b (wonB (tab c a b))).2.2
theorem go_end {c : Ct} {a b : Nat} (ho : OkC c a b) {z : BitVec 64} : ∀ (n : Nat) (s : List Pl × List (List Nat) × List (List Nat)), OutI c a b z s.1 s.2.1 s.2.2 → s.2.1.length + n = 1001 → OutI c a b z (goG c a b z n s).1 (goG c a b z n s).2.1 (goG c a b z n s).2.2 ∧ (goG c a b z n s).2.1.length = (goG c a b z n s).1.length
  | 0, s, h, hn => by have := out_few ho h; have := h.al; omega
  | n + 1, s, h, hn => by
    unfold goG
    cases e : s.1[s.2.1.length]? with
    | none =>
      have h1 := List.getElem?_eq_none_iff.1 e
      have h2 := h.al
      exact ⟨h, Nat.le_antisymm h2 h1⟩
    | some p =>
      exact go_end ho n _ (out_step ho h e) (by simp only [List.length_append, List.length_singleton]; omega)
theorem mch_is {c : Ct} {a b : Nat} (ho : OkC c a b) : ∃ ps, IsMc c a b (mchG c a b) ps := by
  obtain ⟨h1, h2⟩ := go_end ho (z := wonB (tab c a b)) 1001 ([.begin], [], []) out_start (by simp)
  exact ⟨_, out_mc ho h1 h2⟩
theorem belE_encPl {m : Nat} (l : List Pl) : BelE m (l.map encPl) = True := eq_true fun x hx c hc => by
  obtain ⟨p, _, rfl⟩ := List.mem_map.1 hx
  simp only [encPl, AV.cells, plCells, List.mem_cons, List.not_mem_nil, or_false] at hc
  rcases hc with rfl | rfl | rfl | rfl
  · exact .bool _
  · exact .bool _
  · exact .int _ _
  · exact .int _ _
theorem belE_nats {m : Nat} (l : List Nat) : BelE m (l.map fun k : Nat => .int .i64 (k : Int)) = True := eq_true fun x hx c hc => by
  obtain ⟨p, _, rfl⟩ := List.mem_map.1 hx
  simp only [AV.cells, List.mem_cons, List.not_mem_nil, or_false] at hc
  rw [hc]; exact .int _ _
theorem belE_natL {m : Nat} (l : List (List Nat)) : BelE m (l.map natL) = True := eq_true fun x hx c hc => by
  obtain ⟨r, _, rfl⟩ := List.mem_map.1 hx
  simp only [natL, AV.cells, List.mem_cons, List.not_mem_nil, or_false] at hc
  rw [hc]; exact .list _ _ (of_eq_true (belE_nats r))
theorem belL_pl {m : Nat} (p : Pl) : BelL m (plCells p) = True := eq_true ⟨.bool _, .bool _, .int _ _, .int _ _, trivial⟩
attribute [go_sem] belE_encPl belE_nats belE_natL belL_pl
theorem belO9 {m : Nat} (ps : List Pl) : BelO (m + 12) (.box [.own 11 (ps.map encPl)]) = True := eq_true fun c hc => by
  rw [List.mem_singleton.1 hc]; exact .own _ _ (by omega) (of_eq_true (belE_encPl ps))
theorem belO14 {m id : Nat} (h : id < m) (l : List Nat) : BelO m (.box [.own id (l.map fun k : Nat => .int .i64 (k : Int))]) = True := eq_true fun c hc => by
  rw [List.mem_singleton.1 hc]; exact .own _ _ h (of_eq_true (belE_nats l))
theorem iS_top (c : Ct) (t : Tb) (z : BitVec 64) (lvs : List (List (BitVec 64 × List (BitVec 64)))) (a b : Nat) (A X : List (List Nat)) (p : Pl) (s : List Pl × List Nat × List Nat) : (iS c t z lvs a b A X p s).Top :=
  top_add (top_add (top_add (top_add (top_add (top_add (top_add (top_add (top_add (top_add (top_add (top_add (top_add (top_add (top_add (top_add (top_add (top_add (top_add (top_add top_none)))))))))))))))))))
theorem cut_iS {c : Ct} {t : Tb} {z : BitVec 64} {lvs : List (List (BitVec 64 × List (BitVec 64)))} {a b : Nat} {A X : List (List Nat)} {p : Pl} (s s' : List Pl × List Nat × List Nat) : Cut (iS c t z lvs a b A X p s) (iS c t z lvs a b A X p s') (iS c t z lvs a b A X p s') := by
  refine Cut.by' (Nat.le_refl _) (Nat.le_refl _) (fun i hi => .inl (iS_top c t z lvs a b A X p s' i hi)) (fun i o hi ho => ⟨ho, ?_⟩)
  have hi : i < 20 := hi
  exact match i, hi, ho with
  | 0, hi, ho => .inl ho
  | 1, hi, ho => .inl ho
  | 2, hi, ho => .inl ho
  | 3, hi, ho => .inl ho
  | 4, hi, ho => .inl ho
  | 5, hi, ho => .inl ho
  | 6, hi, ho => .inl ho
  | 7, hi, ho => by cases ho; exact .inr (of_eq_true (belO_mapF _ _))
  | 8, hi, ho => .inl ho
  | 9, hi, ho => by cases ho; exact .inr (of_eq_true (belO9 _))
  | 10, hi, ho => .inl ho
  | 11, hi, ho => by cases ho; exact .inr (of_eq_true (belO_tok))
  | 12, hi, ho => .inl ho
  | 13, hi, ho => .inl ho
  | 14, hi, ho => by cases ho; exact .inr (of_eq_true (belO14 (show 18 < 20 by decide) _))
  | 15, hi, ho => by cases ho; exact .inr (of_eq_true (belO14 (show 19 < 20 by decide) _))
  | 16, hi, ho => .inl ho
  | 17, hi, ho => .inl ho
  | 18, hi, ho => by cases ho; exact .inr (of_eq_true (belO_tok))
  | 19, hi, ho => by cases ho; exact .inr (of_eq_true (belO_tok))
  | i + 20, hi, _ => absurd hi (by omega)
theorem natL_int (A : List (List Nat)) : (A.map fun r => r.map fun k : Nat => (k : Int)).map intL = A.map natL := by
  rw [List.map_map]
  refine List.map_congr_left fun r _ => ?_
  show intL (r.map _) = natL r
  unfold intL natL
  rw [List.map_map]; rfl
theorem belO10 (a b : Nat) (A X : List (List Nat)) : BelO 14 (.box [.int .i64 a, .int .i64 b, .own 12 (A.map natL), .own 13 (X.map natL)]) = True := eq_true fun c hc => by
  simp only [List.mem_cons, List.not_mem_nil, or_false] at hc
  rcases hc with rfl | rfl | rfl | rfl
  · exact .int _ _
  · exact .int _ _
  · exact .own _ _ (by decide) (of_eq_true (belE_natL A))
  · exact .own _ _ (by decide) (of_eq_true (belE_natL X))
theorem mS_top (c : Ct) (t : Tb) (z : BitVec 64) (lvs : List (List (BitVec 64 × List (BitVec 64)))) (a b : Nat) (ps : List Pl) (A X : List (List Nat)) : (mS c t z lvs a b ps A X).Top :=
  top_add (top_add (top_add (top_add (top_add (top_add (top_add (top_add (top_add (top_add (top_add (top_add (top_add (top_add top_none)))))))))))))
theorem cut_mS {c : Ct} {t : Tb} {z : BitVec 64} {lvs : List (List (BitVec 64 × List (BitVec 64)))} {a b : Nat} {ps qs : List Pl} {A X A' X' : List (List Nat)} {σ' : Sto} (hn : 14 ≤ σ'.next) (hg : ∀ i, i < 14 → σ'.get i = (mS c t z lvs a b qs A' X').get i) :
    Cut (mS c t z lvs a b ps A X) σ' (mS c t z lvs a b qs A' X') := by
  refine Cut.by' (Nat.le_refl _) hn (fun i hi => .inl (mS_top c t z lvs a b qs A' X' i hi)) (fun i o hi ho => ⟨(hg i hi).trans ho, ?_⟩)
  have hi : i < 14 := hi
  exact match i, hi, ho with
  | 0, hi, ho => .inl ho
  | 1, hi, ho => .inl ho
  | 2, hi, ho => .inl ho
  | 3, hi, ho => .inl ho
  | 4, hi, ho => .inl ho
  | 5, hi, ho => .inl ho
  | 6, hi, ho => .inl ho
  | 7, hi, ho => by cases ho; exact .inr (of_eq_true (belO_mapF _ _))
  | 8, hi, ho => .inl ho
  | 9, hi, ho => by cases ho; exact .inr (of_eq_true (belO9 (m := 2) _))
  | 10, hi, ho => by cases ho; exact .inr (of_eq_true (belO10 _ _ _ _))
  | 11, hi, ho => by cases ho; exact .inr (of_eq_true (belO_tok))
  | 12, hi, ho => by cases ho; exact .inr (of_eq_true (belO_tok))
  | 13, hi, ho => by cases ho; exact .inr (of_eq_true (belO_tok))
  | i + 14, hi, _ => absurd hi (by omega)
theorem iS_get {c : Ct} {t : Tb} {z : BitVec 64} {lvs : List (List (BitVec 64 × List (BitVec 64)))} {a b : Nat} {A X : List (List Nat)} {p : Pl} (s s' : List Pl × List Nat × List Nat) (i : Nat) (hi : i < 20) : (iS c t z lvs a b A X p s').get i =
    if i = 7 then some (.mp (mapF s'.1 0)) else if i = 9 then some (.box [.own 11 (s'.1.map encPl)]) else if i = 11 then some (.tok 4 s'.1.length) else if i = 14 then some (.box [.own 18 (s'.2.1.map fun k : Nat => .int .i64 (k : Int))]) else
    if i = 15 then some (.box [.own 19 (s'.2.2.map fun k : Nat => .int .i64 (k : Int))]) else if i = 18 then some (.tok 1 s'.2.1.length) else if i = 19 then some (.tok 1 s'.2.2.length) else (iS c t z lvs a b A X p s).get i :=
  match i, hi with
  | 0, _ => rfl
  | 1, _ => rfl
  | 2, _ => rfl
  | 3, _ => rfl
  | 4, _ => rfl
  | 5, _ => rfl
  | 6, _ => rfl
  | 7, _ => rfl
  | 8, _ => rfl
  | 9, _ => rfl
  | 10, _ => rfl
  | 11, _ => rfl
  | 12, _ => rfl
  | 13, _ => rfl
  | 14, _ => rfl
  | 15, _ => rfl
  | 16, _ => rfl
  | 17, _ => rfl
  | 18, _ => rfl
  | 19, _ => rfl
  | i + 20, hi => absurd hi (by omega)
theorem mapF_shp : ∀ (ps : List Pl) (n : Nat), (∀ e ∈ mapF ps n, e.1.shp = .agg [.bool false, .bool false, .int .i64 0, .int .i64 0]) = True
  | [], _ => eq_true fun e h => by cases h
  | p :: ps, n => eq_true fun e h => by
    rcases List.mem_cons.1 h with rfl | h
    · rfl
    · exact of_eq_true (mapF_shp ps (n + 1)) e h
theorem okes_encPl (l : List Pl) : OKEs 4 (l.map encPl) = True := eq_true (okes_map fun _ => ⟨rfl, rfl⟩)
theorem okes_nats (l : List Nat) : OKEs 1 (l.map fun k : Nat => .int .i64 (k : Int)) = True := eq_true (okes_map fun _ => ⟨rfl, rfl⟩)
theorem okes_natL (l : List (List Nat)) : OKEs 1 (l.map natL) = True := eq_true (okes_map fun _ => ⟨rfl, rfl⟩)
end Go.Sx
