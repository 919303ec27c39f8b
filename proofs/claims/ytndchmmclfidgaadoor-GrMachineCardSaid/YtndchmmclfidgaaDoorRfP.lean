import Derived.Test.YtndchmmclfidgaaDoorRfJ
set_option maxRecDepth 100000
set_option linter.unusedSimpArgs false
set_option linter.unusedVariables false
set_option linter.unnecessarySimpa false
namespace Go.Sx
open Go Go.Lg Go.Proofs
theorem cycF_iff {p : Pair} {l : List Arc} {of : Nat → Int} {i : Nat} : ∀ {m : Nat}, cycF p l of m i = true ↔ ∃ k, k < m ∧ okG p (grpL p l of ((k : Nat) : Int)) = true ∧ of i = (k : Int)
  | 0 => ⟨fun h => Bool.noConfusion h, fun ⟨k, h, _⟩ => absurd h (Nat.not_lt_zero _)⟩
  | m + 1 => by
    have ih := cycF_iff (p := p) (l := l) (of := of) (i := i) (m := m)
    show (if okG p (grpL p l of (m : Int)) = true then cycF p l of m i || (of i == (m : Int)) else cycF p l of m i) = true ↔ _
    split
    · rename_i h
      rw [Bool.or_eq_true, ih, beq_iff_eq]
      constructor
      · rintro (⟨k, h1, h2, h3⟩ | h1)
        · exact ⟨k, Nat.lt_succ_of_lt h1, h2, h3⟩
        · exact ⟨m, Nat.lt_succ_self m, h, h1⟩
      · rintro ⟨k, h1, h2, h3⟩
        rcases Nat.lt_succ_iff_lt_or_eq.1 h1 with h1 | rfl
        · exact .inl ⟨k, h1, h2, h3⟩
        · exact .inr h3
    · rename_i h
      rw [ih]
      constructor
      · rintro ⟨k, h1, h2, h3⟩; exact ⟨k, Nat.lt_succ_of_lt h1, h2, h3⟩
      · rintro ⟨k, h1, h2, h3⟩
        rcases Nat.lt_succ_iff_lt_or_eq.1 h1 with h1 | rfl
        · exact ⟨k, h1, h2, h3⟩
        · exact absurd h2 h
theorem grp_mem {p : Pair} {l : List Arc} {of : Nat → Int} {k : Int} {e : Arc} : e ∈ grpL p l of k ↔ e ∈ l ∧ of e.fr = of e.to ∧ passA p e = true ∧ of e.fr = k := by
  unfold grpL
  rw [List.mem_filter, Bool.and_eq_true, Bool.and_eq_true, beq_iff_eq, beq_iff_eq]
  exact ⟨fun ⟨h1, ⟨h2, h3⟩, h4⟩ => ⟨h1, h2, h3, h4⟩, fun ⟨h1, h2, h3, h4⟩ => ⟨h1, ⟨h2, h3⟩, h4⟩⟩
theorem grp_mut {p : Pair} {l : List Arc} {n m : Nat} {of : Nat → Int} (hP : prtN p l n n = (of, m)) (hN : InN n l) {x : Nat} (hx : x < n) {e : Arc} :
    e ∈ grpL p l of (of x) ↔ e ∈ l ∧ passA p e = true ∧ Mut p l x e.fr ∧ Mut p l x e.to := by
  have hi := prt_inv (p := p) (l := l) n (Nat.le_refl _)
  rw [hP] at hi
  rw [grp_mem]
  constructor
  · rintro ⟨h1, h2, h3, h4⟩
    obtain ⟨ha, hb⟩ := hN e h1
    exact ⟨h1, h3, (hi.mu x e.fr (hi.lo x hx) (hi.lo _ ha)).1 h4.symm, (hi.mu x e.to (hi.lo x hx) (hi.lo _ hb)).1 (h4.symm.trans h2)⟩
  · rintro ⟨h1, h2, h3, h4⟩
    obtain ⟨ha, hb⟩ := hN e h1
    have e1 : of x = of e.fr := (hi.mu x e.fr (hi.lo x hx) (hi.lo _ ha)).2 h3
    have e2 : of x = of e.to := (hi.mu x e.to (hi.lo x hx) (hi.lo _ hb)).2 h4
    exact ⟨h1, e1.symm.trans e2, h2, e1.symm⟩
theorem cyc_at {p : Pair} {l : List Arc} {n m : Nat} {of : Nat → Int} (hP : prtN p l n n = (of, m)) {x : Nat} (hx : x < n) : cycF p l of m x = okG p (grpL p l of (of x)) := by
  have hi := prt_inv (p := p) (l := l) n (Nat.le_refl _)
  rw [hP] at hi
  rw [Bool.eq_iff_iff, cycF_iff]
  constructor
  · rintro ⟨k, _, h2, h3⟩; rw [h3]; exact h2
  · intro h
    have h1 := hi.lo x hx
    rcases hi.rng x with h2 | ⟨h2, h3⟩
    · exfalso; simp only at h1 h2; omega
    · simp only at h2 h3
      have e : of x = (((of x).toNat : Nat) : Int) := by omega
      exact ⟨(of x).toNat, by omega, by rw [← e]; exact h, e⟩
end Go.Sx
namespace Go.Sx
open Go Go.Lg Go.Proofs
theorem andI_nat (x y : Nat) (hx : x < 8192) (hy : y < 8192) : andI .i64 (x : Int) (y : Int) = ((x &&& y : Nat) : Int) := by
  have h : x &&& y < 2 ^ 13 := Nat.and_lt_two_pow _ (by omega)
  unfold andI
  show IntKind.i64.wrap ((BitVec.ofInt 64 (x : Int) &&& BitVec.ofInt 64 (y : Int)).toNat : Int) = _
  rw [BitVec.ofInt_natCast, BitVec.ofInt_natCast, BitVec.toNat_and, BitVec.toNat_ofNat, BitVec.toNat_ofNat, Nat.mod_eq_of_lt (by omega), Nat.mod_eq_of_lt (by omega)]
  exact wrap_lt (by omega) (by omega)
theorem mk_bit (c : Ct) (z : Nat) (j : Nat) : ∀ k, (mkN c z k).testBit j = (decide (j < k) && holdsF z z ((jL c).getD j (.mk 0 0 [])))
  | 0 => by
    show (0 : Nat).testBit j = _
    rw [Nat.zero_testBit, show decide (j < 0) = false from decide_eq_false (Nat.not_lt_zero _)]; rfl
  | k + 1 => by
    have ih := mk_bit c z j k
    show (if holdsF z z ((jL c).getD k (.mk 0 0 [])) = true then mkN c z k ||| 2 ^ k else mkN c z k).testBit j = _
    by_cases e : j = k
    · subst e
      rw [show decide (j < j) = false from decide_eq_false (Nat.lt_irrefl _), Bool.false_and] at ih
      rw [show decide (j < j + 1) = true from decide_eq_true (Nat.lt_succ_self _), Bool.true_and]
      split
      · rename_i h
        rw [Nat.testBit_or, Nat.testBit_two_pow_self, Bool.or_true, h]
      · rename_i h
        rw [ih]; simp only [Bool.not_eq_true] at h; rw [h]
    · have e2 : decide (j < k + 1) = decide (j < k) := by
        by_cases h : j < k
        · rw [decide_eq_true h, decide_eq_true (by omega)]
        · rw [decide_eq_false h, decide_eq_false (by omega)]
      rw [e2, ← ih]
      split
      · rw [Nat.testBit_or, Nat.testBit_two_pow_of_ne (Ne.symm e), Bool.or_false]
      · rfl
theorem pass_bit (x i : Nat) (hx : x < 4096) (hi : i < 12) : (andI .i64 (x : Int) ((2 ^ i : Nat) : Int) == 0) = !x.testBit i := by
  have h2 : 2 ^ i < 2 ^ 12 := Nat.pow_lt_pow_right (by decide) hi
  rw [andI_nat x (2 ^ i) (by omega) (by omega)]
  rw [Bool.eq_iff_iff, beq_iff_eq]
  constructor
  · intro h
    have h : x &&& 2 ^ i = 0 := by omega
    have := congrArg (fun y => y.testBit i) h
    simp only [Nat.testBit_and, Nat.testBit_two_pow_self, Bool.and_true, Nat.zero_testBit] at this
    rw [this]; rfl
  · intro h
    have h : x.testBit i = false := by simpa using h
    have e : x &&& 2 ^ i = 0 := Nat.eq_of_testBit_eq fun j => by
      rw [Nat.testBit_and, Nat.zero_testBit]
      by_cases e : j = i
      · subst e; rw [h]; rfl
      · rw [Nat.testBit_two_pow_of_ne (Ne.symm e), Bool.and_false]
    rw [e]; rfl
theorem anI_zero (n w : Nat) (hn : n ≤ 12) (hw : w < 4096) : (anI .i64 (((2 ^ n : Nat) : Int) - 1) (w : Int) == 0) = true ↔ ∀ t, t < n → w.testBit t = true := by
  have h1 : 1 ≤ 2 ^ n := Nat.one_le_two_pow
  have h2 : 2 ^ n ≤ 2 ^ 12 := Nat.pow_le_pow_right (by decide) hn
  rw [show ((2 ^ n : Nat) : Int) - 1 = ((2 ^ n - 1 : Nat) : Int) by omega]
  unfold anI
  have e : ∀ t, (BitVec.ofNat 64 (2 ^ n - 1) &&& ~~~ BitVec.ofNat 64 w).getLsbD t = (decide (t < 64) && (decide (t < n) && !w.testBit t)) := fun t => by
    rw [BitVec.getLsbD_and, BitVec.getLsbD_not, BitVec.getLsbD_ofNat, BitVec.getLsbD_ofNat, Nat.testBit_two_pow_sub_one]
    by_cases h : t < 64
    · simp [h]
    · simp [h]
  show (IntKind.i64.wrap ((BitVec.ofInt 64 ((2 ^ n - 1 : Nat) : Int) &&& ~~~ BitVec.ofInt 64 (w : Int)).toNat : Int) == 0) = true ↔ _
  rw [BitVec.ofInt_natCast, BitVec.ofInt_natCast]
  generalize hb : BitVec.ofNat 64 (2 ^ n - 1) &&& ~~~ BitVec.ofNat 64 w = b at e
  have hbl : b.toNat < 2 ^ 12 := by
    rw [← hb, BitVec.toNat_and, BitVec.toNat_ofNat, Nat.mod_eq_of_lt (by omega)]
    exact Nat.lt_of_le_of_lt Nat.and_le_left (by omega)
  rw [wrap_lt (by omega) (by omega), beq_iff_eq]
  constructor
  · intro h t ht
    have h : b = 0#64 := BitVec.eq_of_toNat_eq (by rw [BitVec.toNat_ofNat]; omega)
    have := e t
    rw [h, decide_eq_true ht, decide_eq_true (by omega)] at this
    simpa using this
  · intro h
    have h : b = 0#64 := BitVec.eq_of_getLsbD_eq fun t ht => by
      rw [e t, BitVec.getLsbD_zero]
      by_cases h1 : t < n
      · rw [h t h1]; simp
      · simp [h1]
    rw [h]; rfl
end Go.Sx
namespace Go.Sx
open Go Go.Lg Go.Proofs
theorem mar_nat (w : Arc → Nat) : ∀ (l : List Arc), (∀ e ∈ l, e.ma = (w e : Int) ∧ w e < 4096) → ∀ z : Nat, z < 4096 → ∃ W : Nat, l.foldl (fun z a => orI .i64 z a.ma) (z : Int) = (W : Int) ∧ W < 4096 ∧ ∀ t, W.testBit t = true ↔ z.testBit t = true ∨ ∃ e ∈ l, (w e).testBit t = true
  | [], _, z, hz => ⟨z, rfl, hz, fun t => ⟨.inl, fun h => h.elim id fun ⟨e, he, _⟩ => by cases he⟩⟩
  | a :: l, h, z, hz => by
    obtain ⟨h1, h2⟩ := h a List.mem_cons_self
    have hz2 : z ||| w a < 2 ^ 12 := Nat.or_lt_two_pow hz h2
    obtain ⟨W, k1, k2, k3⟩ := mar_nat w l (fun e he => h e (List.mem_cons_of_mem _ he)) (z ||| w a) hz2
    refine ⟨W, ?_, k2, fun t => ?_⟩
    · rw [List.foldl_cons, h1, orI_nat z (w a) hz (by omega)]; exact k1
    · rw [k3 t, Nat.testBit_or, Bool.or_eq_true]
      constructor
      · rintro ((h | h) | ⟨e, he, h⟩)
        · exact .inl h
        · exact .inr ⟨a, List.mem_cons_self, h⟩
        · exact .inr ⟨e, List.mem_cons_of_mem _ he, h⟩
      · rintro (h | ⟨e, he, h⟩)
        · exact .inl (.inl h)
        · rcases List.mem_cons.1 he with he | he
          · rw [he] at h; exact .inl (.inr h)
          · exact .inr ⟨e, he, h⟩
theorem mar_zero : ∀ (l : List Arc), (∀ e ∈ l, e.ot = 0) → l.foldl (fun z a => orI .i64 z a.ot) 0 = 0
  | [], _ => rfl
  | a :: l, h => by
    rw [List.foldl_cons, h a List.mem_cons_self]
    exact mar_zero l fun e he => h e (List.mem_cons_of_mem _ he)
def pairH (c : Ct) (i : Nat) : Pair := ⟨((2 ^ (c.je.length + i) : Nat) : Int), ((2 ^ c.je.length : Nat) : Int) - 1, 0, 0⟩
theorem okG_iff (c : Ct) (i : Nat) (w : Arc → Nat) (l : List Arc) (hj : c.je.length ≤ 12) (hl : ∀ e ∈ l, e.ma = (w e : Int) ∧ w e < 4096 ∧ e.ot = 0) :
    okG (pairH c i) l = true ↔ (∃ e, e ∈ l) ∧ ∀ t, t < c.je.length → ∃ e ∈ l, (w e).testBit t = true := by
  obtain ⟨W, k1, k2, k3⟩ := mar_nat w l (fun e he => ⟨(hl e he).1, (hl e he).2.1⟩) 0 (by decide)
  have k1 : marO (·.ma) l = (W : Int) := k1
  have z1 : marO (·.ot) l = 0 := mar_zero l fun e he => (hl e he).2.2
  have z2 : (anI .i64 0 0 == 0) = true := by decide
  unfold okG
  rw [k1, z1]
  show (decide (0 < l.length) && (anI .i64 (((2 ^ c.je.length : Nat) : Int) - 1) (W : Int) == 0 && anI .i64 0 0 == 0)) = true ↔ _
  rw [z2, Bool.and_true, Bool.and_eq_true, anI_zero _ _ hj k2, decide_eq_true_eq]
  refine and_congr ⟨fun h => ⟨l[0], List.getElem_mem h⟩, fun ⟨e, he⟩ => List.length_pos_of_mem he⟩ (forall_congr' fun t => forall_congr' fun _ => ?_)
  rw [k3 t, Nat.zero_testBit]
  exact ⟨fun h => h.elim (fun h => Bool.noConfusion h) id, .inr⟩
theorem cycB_iff (c : Ct) (N i : Nat) (w : Arc → Nat) (l : List Arc) (hj : c.je.length ≤ 12) (hN : InN N l) (hl : ∀ e ∈ l, e.ma = (w e : Int) ∧ w e < 4096 ∧ e.ot = 0) {x : Nat} (hx : x < N) :
    cycB c N i l x = true ↔ (∃ e ∈ l, passA (pairH c i) e = true ∧ Mut (pairH c i) l x e.fr ∧ Mut (pairH c i) l x e.to) ∧ ∀ t, t < c.je.length → ∃ e ∈ l, passA (pairH c i) e = true ∧ Mut (pairH c i) l x e.fr ∧ Mut (pairH c i) l x e.to ∧ (w e).testBit t = true := by
  show cycF (pairH c i) l (prtN (pairH c i) l N N).1 (prtN (pairH c i) l N N).2 x = true ↔ _
  have hP : prtN (pairH c i) l N N = ((prtN (pairH c i) l N N).1, (prtN (pairH c i) l N N).2) := rfl
  have hm := fun e => grp_mut hP hN hx (e := e)
  rw [cyc_at hP hx, okG_iff c i w _ hj fun e he => hl e ((hm e).1 he).1]
  refine and_congr ⟨fun ⟨e, he⟩ => ⟨e, ((hm e).1 he).1, ((hm e).1 he).2⟩, fun ⟨e, h1, h2⟩ => ⟨e, (hm e).2 ⟨h1, h2⟩⟩⟩ (forall_congr' fun t => forall_congr' fun _ => ?_)
  exact ⟨fun ⟨e, he, h⟩ => ⟨e, ((hm e).1 he).1, ((hm e).1 he).2.1, ((hm e).1 he).2.2.1, ((hm e).1 he).2.2.2, h⟩, fun ⟨e, h1, h2, h3, h4, h⟩ => ⟨e, (hm e).2 ⟨h1, h2, h3, h4⟩, h⟩⟩
end Go.Sx
namespace Go.Sx
open Go Go.Lg Go.Proofs
open Classical in
noncomputable def rchN (Rl : Nat → Nat → Prop) (x : Nat) (y : Nat) : Bool := decide (Rl x y)
theorem rchN_iff {Rl : Nat → Nat → Prop} {x y : Nat} : rchN Rl x y = true ↔ Rl x y := by unfold rchN; simp
theorem bottom {N : Nat} (Rl : Nat → Nat → Prop) (hr : ∀ x, Rl x x) (ht : ∀ x y z, Rl x y → Rl y z → Rl x z) (B : Nat → Prop) (hN : ∀ x, B x → x < N) (hcl : ∀ x y, B x → Rl x y → B y) :
    ∀ (k : Nat) (x : Nat), B x → cnt (rchN Rl x) N < k → ∃ x, B x ∧ ∀ y, Rl x y → Rl y x
  | 0, x, _, h => absurd h (Nat.not_lt_zero _)
  | k + 1, x, hx, h => by
    by_cases hb : ∀ y, Rl x y → Rl y x
    · exact ⟨x, hx, hb⟩
    · obtain ⟨y, hy⟩ := Classical.not_forall.1 hb
      obtain ⟨h1, h2⟩ := Classical.not_imp.1 hy
      have hlt : cnt (rchN Rl y) N < cnt (rchN Rl x) N := cnt_lt (fun z hz => rchN_iff.2 (ht x y z h1 (rchN_iff.1 hz))) x (rchN_iff.2 (hr x)) (Bool.eq_false_iff.2 fun h => h2 (rchN_iff.1 h)) N (hN x hx)
      exact bottom Rl hr ht B hN hcl k y (hcl x y hx h1) (by omega)
theorem post_it {f : BitVec 64 → BitVec 64} (hm : Mono f) {z : BitVec 64} (h : SubB z (f z)) : ∀ (m : Nat) (x : BitVec 64), SubB z x → SubB z (itB f m x)
  | 0, x, hx => hx
  | m + 1, x, hx => post_it hm h m (f x) fun i hi => hm z x hx i (h i hi)
theorem post_won {t : Tb} {z : BitVec 64} (hz : SubB z (allB t.n)) (h : SubB z (zStep t z)) : SubB z (wonB t) := post_it (zStep_mono t) h 66 _ hz
theorem post_x {t : Tb} {s f w : BitVec 64} (hw : SubB w (allB t.n)) (h : SubB w (xStep t s f w)) : SubB w (xF t s f) := post_it (xStep_mono t s f) h 66 _ hw
theorem bit_nat (x v : Nat) (hx : x < 8192) (hv : v < 64) : bitI (x : Int) (v : Int) = x.testBit v := by
  have e : shrI .i64 (x : Int) (v : Int) = ((x >>> v : Nat) : Int) := by
    unfold shrI
    show (x : Int).fdiv (2 ^ (min v 64)) = _
    rw [Nat.min_eq_left (by omega), Int.fdiv_eq_ediv_of_nonneg _ (by exact_mod_cast Nat.zero_le _), Nat.shiftRight_eq_div_pow]
    norm_cast
  unfold bitI
  have hs : x >>> v < 8192 := Nat.lt_of_le_of_lt (by rw [Nat.shiftRight_eq_div_pow]; exact Nat.div_le_self _ _) hx
  rw [e, show (1 : Int) = ((1 : Nat) : Int) from rfl, andI_nat _ 1 hs (by decide), Bool.eq_iff_iff, beq_iff_eq]
  rw [Nat.testBit, Nat.and_comm]
  constructor
  · intro h; have h : 1 &&& x >>> v = 1 := by omega
    rw [h]; rfl
  · intro h
    have h2 : 1 &&& x >>> v < 2 := Nat.lt_of_le_of_lt Nat.and_le_left (by decide)
    have h3 : 1 &&& x >>> v ≠ 0 := by simpa using h
    omega
theorem bit_low {a i o v : Nat} (hi : i < 2 ^ a) (hb : i + o * 2 ^ a < 8192) (hv : v < a) (ha : a < 64) : bitI ((i + o * 2 ^ a : Nat) : Int) (v : Int) = bitI (i : Int) (v : Int) := by
  rw [bit_nat _ v hb (by omega), bit_nat i v (by omega) (by omega), Nat.add_comm, Nat.mul_comm, Nat.testBit_two_pow_mul_add _ hi, if_pos hv]
theorem holds_step (n : Int) (l k k' : Int) (hk : ∀ v, 0 ≤ v → v < n → bitI k v = bitI k' v) (f : Fm) : WfT f → stepR n f = true → holdsF l k f = holdsF l k' f := by
  induction f using Fm.ind with
  | h o v ar ih =>
    intro hw hp
    simp only [WfT] at hw
    obtain ⟨hw1, hw2⟩ := hw
    by_cases h8 : o = 8
    · subst h8
      cases ar with
      | nil => simp [stepR] at hp
      | cons g r =>
        simp only [stepR, if_true, Bool.and_eq_true, decide_eq_true_eq] at hp
        obtain ⟨g', e1, _, e2⟩ := hw1.2.2.2.2.2 rfl
        have e1 : g = g' := (List.cons.inj e1).1
        have e := hk g.var (by rw [e1]; exact e2) hp.2
        simp [holdsF, e]
    · simp only [stepR, if_neg h8, Bool.and_eq_true] at hp
      obtain ⟨h1, _⟩ := hp
      have hL : ∀ r : List Fm, (∀ g ∈ r, g ∈ ar) → stepRL n r = true → holdsL l k r = holdsL l k' r := by
        intro r
        induction r with
        | nil => intro _ _; rfl
        | cons g r ihr =>
          intro hm hr
          simp only [stepRL, Bool.and_eq_true] at hr
          simp only [holdsL]
          rw [ih g (hm g (List.mem_cons_self ..)) (WfTL.mem hw2 g (hm g (List.mem_cons_self ..))) hr.1, ihr (fun x hx => hm x (List.mem_cons_of_mem _ hx)) hr.2]
      simp only [holdsF, hL ar (fun _ h => h) h1, if_neg h8]
theorem holds_low {a i o : Nat} (l : Int) (hi : i < 2 ^ a) (hb : i + o * 2 ^ a < 8192) (ha : a < 64) {f : Fm} (hw : WfT f) (hs : stepR (a : Int) f = true) : holdsF l ((i + o * 2 ^ a : Nat) : Int) f = holdsF l (i : Int) f :=
  holds_step (a : Int) l _ _ (fun v h0 h1 => by
    obtain ⟨w, rfl⟩ := Int.eq_ofNat_of_zero_le h0
    exact bit_low hi hb (by omega) ha) f hw hs
theorem fixR_fix {T : Type} {f : BitVec 64 → BitVec 64} {tS : BitVec 64 → T → T} : ∀ (n : Nat) (x : BitVec 64) (t : T) (r : BitVec 64 × T), fixR f tS n x t = some r → f r.1 = r.1
  | 0, x, t, r, h => by simp [fixR] at h
  | n + 1, x, t, r, h => by
    unfold fixR at h
    split at h
    · rename_i e
      first
        | (cases h; simpa using e)
        | (cases h; simpa using e.symm)
    · exact fixR_fix n _ _ r h
theorem y_fix {t : Tb} (h : Stab t) (z j : BitVec 64) : yStep t (j &&& aheadB t z) (zY t z j) = zY t z j := by
  obtain ⟨lv, e⟩ := h.y j z
  exact fixR_fix _ _ _ _ e
theorem x_fix {t : Tb} (h : Stab t) (j z y f : BitVec 64) : xStep t ((j &&& aheadB t z) ||| aheadB t y) f (xF t ((j &&& aheadB t z) ||| aheadB t y) f) = xF t ((j &&& aheadB t z) ||| aheadB t y) f := fixR_fix _ _ _ _ (h.x j z y f)
theorem orB_get (l : List (BitVec 64)) (i : Nat) : (orB l).getLsbD i = true ↔ ∃ y ∈ l, y.getLsbD i = true := by
  have key : ∀ (l : List (BitVec 64)) (x : BitVec 64), (l.foldl (· ||| ·) x).getLsbD i = true ↔ x.getLsbD i = true ∨ ∃ y ∈ l, y.getLsbD i = true := by
    intro l
    induction l with
    | nil => intro x; simp
    | cons a l ih => intro x; rw [List.foldl_cons, ih]; simp [or_assoc]
  unfold orB
  rw [key]; simp
theorem x_sub_y {t : Tb} (h : Stab t) (z j f : BitVec 64) (hf : f ∈ t.je) : SubB (xF t ((j &&& aheadB t z) ||| aheadB t (zY t z j)) f) (zY t z j) := fun i hi => by
  rw [← y_fix h z j]
  exact (orB_get _ i).2 ⟨_, List.mem_map.2 ⟨f, hf, rfl⟩, hi⟩
theorem y_one {t : Tb} (h : Stab t) (z j : BitVec 64) : SubB (zY t z j) ((j &&& aheadB t z) ||| aheadB t (zY t z j)) := fun i hi => by
  have h1 := hi
  rw [← y_fix h z j] at h1
  obtain ⟨w, hw, hwi⟩ := (orB_get _ i).1 h1
  obtain ⟨f, hf, rfl⟩ := List.mem_map.1 hw
  have hs := x_sub_y h z j f hf
  rw [← x_fix h] at hwi
  have hwi : (xStep t ((j &&& aheadB t z) ||| aheadB t (zY t z j)) f (xF t ((j &&& aheadB t z) ||| aheadB t (zY t z j)) f)).getLsbD i = true := hwi
  unfold xStep at hwi
  rw [BitVec.getLsbD_or, Bool.or_eq_true] at hwi
  rcases hwi with hwi | hwi
  · exact hwi
  · rw [BitVec.getLsbD_and, BitVec.getLsbD_and, Bool.and_eq_true, Bool.and_eq_true] at hwi
    rw [BitVec.getLsbD_or, Bool.or_eq_true]
    exact .inr (ahead_mono t _ _ hs i hwi.1.2)
end Go.Sx
namespace Go.Sx
open Go Go.Lg Go.Proofs
noncomputable def setP (P : Nat → Prop) (n : Nat) : BitVec 64 := setB (fun l => @decide (P l) (Classical.propDecidable _)) n
inductive Rt (E : Nat → Nat → Prop) : Nat → Nat → Prop
  | refl (x : Nat) : Rt E x x
  | step {x y z : Nat} (h : Rt E x y) (e : E y z) : Rt E x z
theorem Rt.trans {E : Nat → Nat → Prop} {x y z : Nat} (h1 : Rt E x y) (h2 : Rt E y z) : Rt E x z := by
  induction h2 with
  | refl => exact h1
  | step _ e ih => exact .step ih e
theorem and_fold (g : BitVec 64 → BitVec 64) (i : Nat) : ∀ (l : List (BitVec 64)) (w : BitVec 64), w.getLsbD i = true → (∀ j ∈ l, (g j).getLsbD i = true) → (l.foldl (fun out j => out &&& g j) w).getLsbD i = true
  | [], w, h, _ => h
  | j :: l, w, h, hl => by
    rw [List.foldl_cons]
    exact and_fold g i l _ (by rw [BitVec.getLsbD_and, h, hl j List.mem_cons_self]; rfl) fun k hk => hl k (List.mem_cons_of_mem _ hk)
structure OkC (c : Ct) (a b : Nat) : Prop where
  v : CtV c a b
  p : PlainC c
  st : stepR (a : Int) c.se = true
  l : c.je.length + c.js.length ≤ 12
theorem okC_of {c : Ct} (h : validC c = true) {a b : Nat} (hc : CtV c a b) : OkC c a b := by
  refine ⟨hc, plainC_of h, ?_, ?_⟩
  · have hin := hc.inn
    unfold validC at h
    simp only [Bool.and_eq_true, decide_eq_true_eq, List.all_eq_true] at h
    obtain ⟨⟨⟨⟨⟨⟨⟨⟨⟨⟨h1, h2⟩, h3⟩, h4⟩, h5⟩, g1⟩, g2⟩, g3⟩, g4⟩, g5⟩, g6⟩ := h
    rw [← good_step, Bool.and_eq_true, hin] at g3
    exact g3.2
  · unfold validC at h
    simp only [Bool.and_eq_true, decide_eq_true_eq, List.all_eq_true] at h
    exact h.1.1.1.1.1.1.2
section
variable {c : Ct} {m : Mc} {a b : Nat} (ho : OkC c a b) (hf : FitP m a b) {s : HS} (he : HEnd c m a b (m.ans.length * 2 ^ (a + b)) s)
include ho hf he
noncomputable def zN (s : HS) (n : Nat) : BitVec 64 := setP (fun l => ∃ x, s.th x = true ∧ x % n = l) n
omit ho hf in
theorem arc_in : InN (m.ans.length * 2 ^ (a + b)) s.ar := fun e h => by
  obtain ⟨x, i, h1, _, _, h2, rfl⟩ := he.arc e h
  exact ⟨he.out _ h1, he.out _ h2⟩
omit hf in
theorem arc_ma : ∀ e ∈ s.ar, e.ma = ((e.ma.toNat : Nat) : Int) ∧ e.ma.toNat < 4096 ∧ e.ot = 0 := fun e h => by
  obtain ⟨x, i, h1, _, _, h2, rfl⟩ := he.arc e h
  have hl := mkN_lt c (x % 2 ^ (a + b)) (jL c).length (by unfold jL; rw [List.length_append]; exact ho.l)
  exact ⟨rfl, hl, rfl⟩
end
end Go.Sx
namespace Go.Sx
open Go Go.Lg Go.Proofs
section
variable {c : Ct} {m : Mc} {a b : Nat} (ho : OkC c a b) (hf : FitP m a b) {s : HS} (he : HEnd c m a b (m.ans.length * 2 ^ (a + b)) s)
def outY (s : HS) (n : Nat) (Y : BitVec 64) (x : Nat) : Prop := s.th x = true ∧ Y.getLsbD (x % n) = false
def stE (c : Ct) (m : Mc) (a b : Nat) (s : HS) (Y : BitVec 64) (x y : Nat) : Prop :=
  outY s (2 ^ (a + b)) Y x ∧ outY s (2 ^ (a + b)) Y y ∧ ∃ i, i < 2 ^ a ∧ seB c m a b x i = true ∧ y = nxM m a b (x / 2 ^ (a + b)) i
include ho hf he
end
section
variable {c : Ct} {m : Mc} {a b : Nat} (ho : OkC c a b) (hf : FitP m a b)
include ho hf
end
end Go.Sx
