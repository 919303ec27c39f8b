/- Sets of at most 64 numbers as machine words. -/
import Derived.Test.YtndchmmclfidgaaDoorLgQ
set_option linter.unusedVariables false
set_option linter.unusedSimpArgs false
namespace Go.Lg

/-- A word as the model's number. -/
def uB (b : BitVec 64) : Int := (b.toNat : Int)
theorem uB_ofInt (b : BitVec 64) : BitVec.ofInt 64 (uB b) = b := by unfold uB; rw [BitVec.ofInt_natCast]; simp
theorem uB_bits : IntKind.u64.bits = 64 := rfl
theorem wrap_u64 (n : Int) (h0 : 0 ≤ n) (h1 : n < 18446744073709551616) : IntKind.u64.wrap n = n := IntWalk.u64_in n ⟨h0, by omega⟩
theorem uB_lt (b : BitVec 64) : 0 ≤ uB b ∧ uB b < 18446744073709551616 := by unfold uB; have := b.isLt; omega
theorem or_uB (a b : BitVec 64) : orI .u64 (uB a) (uB b) = uB (a ||| b) := by
  unfold orI
  show IntKind.u64.wrap ((BitVec.ofInt 64 (uB a) ||| BitVec.ofInt 64 (uB b)).toNat : Int) = _
  rw [uB_ofInt, uB_ofInt]
  exact wrap_u64 _ (uB_lt _).1 (uB_lt _).2
theorem and_uB (a b : BitVec 64) : andI .u64 (uB a) (uB b) = uB (a &&& b) := by
  unfold andI
  show IntKind.u64.wrap ((BitVec.ofInt 64 (uB a) &&& BitVec.ofInt 64 (uB b)).toNat : Int) = _
  rw [uB_ofInt, uB_ofInt]
  exact wrap_u64 _ (uB_lt _).1 (uB_lt _).2
theorem not_uB (a : BitVec 64) : notI .u64 (uB a) = uB (~~~ a) := by
  unfold notI
  show IntKind.u64.wrap ((BitVec.ofInt 64 18446744073709551615 ^^^ BitVec.ofInt 64 (uB a)).toNat : Int) = _
  rw [uB_ofInt]
  have : BitVec.ofInt 64 18446744073709551615 ^^^ a = ~~~ a := by
    have h1 : (BitVec.ofInt 64 18446744073709551615) = BitVec.allOnes 64 := by decide
    rw [h1, BitVec.allOnes_xor]
  rw [this]
  exact wrap_u64 _ (uB_lt _).1 (uB_lt _).2
theorem wrap_u64_mod (n : Nat) : IntKind.u64.wrap (n : Int) = ((n % 18446744073709551616 : Nat) : Int) := by
  show ((n : Int) % 2 ^ 64 : Int) = _
  omega
theorem shl_uB (k : Nat) : shlI .u64 1 (k : Int) = uB (1#64 <<< k) := by
  unfold shlI
  show IntKind.u64.wrap (1 * 2 ^ (min ((k : Int).toNat) 64)) = _
  rw [Int.toNat_natCast, Int.one_mul]
  have : ((2 : Int) ^ (min k 64)) = ((2 ^ (min k 64) : Nat) : Int) := by push_cast; rfl
  rw [this, wrap_u64_mod]
  unfold uB
  rw [BitVec.toNat_shiftLeft]
  congr 1
  simp only [BitVec.toNat_ofNat, Nat.shiftLeft_eq]
  by_cases h : k ≤ 64
  · rw [Nat.min_eq_left h]; simp
  · rw [Nat.min_eq_right (by omega)]
    have hk : k = 64 + (k - 64) := by omega
    rw [hk, Nat.pow_add]
    simp [← Nat.mul_assoc, Nat.mul_mod_right]
theorem uB_zero : uB 0#64 = 0 := rfl
theorem uB_inj {a b : BitVec 64} : uB a = uB b ↔ a = b := by
  unfold uB
  constructor
  · intro h; exact BitVec.eq_of_toNat_eq (by omega)
  · rintro rfl; rfl
theorem uB_beq (a b : BitVec 64) : (uB a == uB b) = (a == b) := by
  rw [Bool.eq_iff_iff]; simp [uB_inj]
theorem uB_beq0 (a : BitVec 64) : (uB a == 0) = (a == 0#64) := by rw [← uB_zero, uB_beq]
theorem ones_uB : uB (BitVec.allOnes 64) = 18446744073709551615 := by decide
theorem sub1_uB (k : Nat) (hk : k < 64) : IntKind.u64.wrap (uB (1#64 <<< k) - 1) = uB (1#64 <<< k - 1#64) := by
  have h1 : (1#64 <<< k).toNat = 2 ^ k := by
    rw [BitVec.toNat_shiftLeft]
    simp only [BitVec.toNat_ofNat, Nat.shiftLeft_eq]
    have : 2 ^ k < 2 ^ 64 := Nat.pow_lt_pow_right (by omega) hk
    simp
    omega
  have hp : 0 < 2 ^ k := Nat.pos_of_ne_zero (by simp)
  have hl := (uB_lt (1#64 <<< k))
  unfold uB at *
  rw [wrap_u64 _ (by omega) (by omega), BitVec.toNat_sub, h1]
  have : 2 ^ k < 2 ^ 64 := Nat.pow_lt_pow_right (by omega) hk
  simp only [BitVec.toNat_ofNat]
  omega

/-- The numbers below n at which p is true. -/
def setB (p : Nat → Bool) : Nat → BitVec 64
  | 0 => 0#64
  | k + 1 => if p k = true then setB p k ||| (1#64 <<< k) else setB p k
theorem setB_get (p : Nat → Bool) : ∀ (n i : Nat), i < 64 → (setB p n).getLsbD i = (decide (i < n) && p i)
  | 0, i, _ => by simp [setB]
  | n + 1, i, h => by
    simp only [setB]
    by_cases hp : p n = true
    · rw [if_pos hp, BitVec.getLsbD_or, setB_get p n i h, BitVec.getLsbD_shiftLeft]
      by_cases e : i = n
      · subst e; simp [h, hp]
      · by_cases hl : i < n
        · simp [hl, Nat.lt_succ_of_lt hl]
        · have h1 : ¬ i < n + 1 := by omega
          have h2 : i - n ≠ 0 := by omega
          simp [hl, h1, h, h2]
    · rw [if_neg hp, setB_get p n i h]
      by_cases e : i = n
      · subst e; simp [hp]
      · have : (i < n) ↔ (i < n + 1) := by omega
        simp [this]
/-- All numbers below n. -/
def allB (n : Nat) : BitVec 64 := if n = 64 then BitVec.allOnes 64 else (1#64 <<< n) - 1#64
theorem allB_get (n i : Nat) (hn : n ≤ 64) (hi : i < 64) : (allB n).getLsbD i = decide (i < n) := by
  unfold allB
  by_cases e : n = 64
  · rw [if_pos e, BitVec.getLsbD_allOnes, e]
  · rw [if_neg e]
    have h1 : (1#64 <<< n).toNat = 2 ^ n := by
      rw [BitVec.toNat_shiftLeft]
      simp only [BitVec.toNat_ofNat, Nat.shiftLeft_eq]
      have : 2 ^ n < 2 ^ 64 := Nat.pow_lt_pow_right (by omega) (by omega)
      simp
      omega
    have hp : 0 < 2 ^ n := Nat.pos_of_ne_zero (by simp)
    have hlt : 2 ^ n < 2 ^ 64 := Nat.pow_lt_pow_right (by omega) (by omega)
    have h2 : ((1#64 <<< n) - 1#64).toNat = 2 ^ n - 1 := by
      rw [BitVec.toNat_sub, h1]
      simp only [BitVec.toNat_ofNat]
      omega
    rw [BitVec.getLsbD, h2, Nat.testBit_two_pow_sub_one]
attribute [go_sem] or_uB and_uB not_uB shl_uB uB_beq uB_beq0

theorem bit_uB (z : BitVec 64) (l : Nat) : (andI .u64 (shrI .u64 (uB z) (l : Int)) 1 == 1) = z.getLsbD l := by
  have h1 : shrI .u64 (uB z) (l : Int) = uB (z >>> l) := by
    unfold shrI
    show (uB z).fdiv (2 ^ (min ((l : Int).toNat) 64)) = _
    rw [Int.toNat_natCast]
    unfold uB
    have hp : (2 : Int) ^ (min l 64) = ((2 ^ (min l 64) : Nat) : Int) := by push_cast; rfl
    rw [hp, Int.fdiv_eq_ediv_of_nonneg _ (Int.natCast_nonneg _), ← Int.natCast_ediv, BitVec.toNat_ushiftRight, Nat.shiftRight_eq_div_pow]
    by_cases h : l ≤ 64
    · rw [Nat.min_eq_left h]
    · rw [Nat.min_eq_right (by omega)]
      have hz := z.isLt
      rw [Nat.div_eq_of_lt hz, Nat.div_eq_of_lt (Nat.lt_of_lt_of_le hz (Nat.pow_le_pow_right (by omega) (by omega)))]
  have h2 : (1 : Int) = uB 1#64 := rfl
  rw [h1, h2, and_uB, uB_beq, Bool.eq_iff_iff, beq_iff_eq]
  constructor
  · intro h
    have := congrArg (fun x => x.getLsbD 0) h
    simpa using this
  · intro h
    ext i hi
    by_cases e : i = 0
    · subst e; simpa using h
    · simp [e]
attribute [go_sem] bit_uB
theorem set_fill {A : Type} (g : Nat → A) (d : A) (n i : Nat) (h : i < n) : ((List.range i).map g ++ List.replicate (n - i) d).set i (g i) = (List.range (i + 1)).map g ++ List.replicate (n - (i + 1)) d := by
  have e : n - i = (n - (i + 1)) + 1 := by omega
  rw [e, List.replicate_succ, List.set_append_right _ _ (by simp)]
  simp [List.range_succ]

/-! ### Closed values, reckoned -/
def AllCl : List AV → Prop
  | [] => True
  | x :: xs => Closed x ∧ AllCl xs
theorem allCl_iff : ∀ {l : List AV}, AllCl l → ∀ c ∈ l, Closed c
  | x :: xs, h, c, hc => by
    rcases List.mem_cons.1 hc with rfl | hc
    · exact h.1
    · exact allCl_iff h.2 c hc
def ClE (l : List AV) : Prop := ∀ x ∈ l, ∀ c ∈ x.cells, Closed c
theorem cl_int {k : IntKind} {n : Int} : Closed (.int k n) = True := eq_true (.int _ _)
theorem cl_bool {b : Bool} : Closed (.bool b) = True := eq_true (.bool _)
theorem cl_str {b : ByteArray} : Closed (.str b) = True := eq_true (.str _)
theorem cl_nilp : Closed .nilp = True := eq_true .nilp
theorem cl_list {f : Bool} {xs : List AV} : Closed (.list f xs) = ClE xs := propext ⟨fun h => by cases h; assumption, .list _ _⟩
theorem cl_agg {xs : List AV} : Closed (.agg xs) = AllCl xs := propext ⟨fun h => by
  cases h with
  | agg _ h =>
    induction xs with
    | nil => trivial
    | cons x xs ih => exact ⟨h x List.mem_cons_self, ih fun c hc => h c (List.mem_cons_of_mem _ hc)⟩, fun h => .agg _ (allCl_iff h)⟩
theorem cl_tup {xs : List AV} : Closed (.tup xs) = AllCl xs := propext ⟨fun h => by
  cases h with
  | tup _ h =>
    induction xs with
    | nil => trivial
    | cons x xs ih => exact ⟨h x List.mem_cons_self, ih fun c hc => h c (List.mem_cons_of_mem _ hc)⟩, fun h => .tup _ (allCl_iff h)⟩
theorem cl_encF {f : Fm} : Closed (encF f) = True := eq_true (closedF f)
theorem clE_encFs {l : List Fm} : ClE (encFs l) = True := eq_true (closedFs l)
theorem clE_nil : ClE [] = True := eq_true (fun x h => by cases h)
theorem clE_map {A : Type} {f : A → AV} (hf : ∀ a, Closed (f a)) (l : List A) : ClE (l.map f) := fun x hx c hc => by
  obtain ⟨a, _, rfl⟩ := List.mem_map.1 hx
  have h := hf a
  generalize hv : f a = v at *
  cases v with
  | agg cs => cases h with | agg _ h => exact h c hc
  | _ => simp only [AV.cells, List.mem_singleton] at hc; subst hc; exact h
theorem clE_cons {x : AV} {xs : List AV} : ClE (x :: xs) = ((∀ c ∈ x.cells, Closed c) ∧ ClE xs) := propext ⟨fun h => ⟨h x List.mem_cons_self, fun y hy => h y (List.mem_cons_of_mem _ hy)⟩, fun h y hy => by
  rcases List.mem_cons.1 hy with rfl | hy
  · exact h.1
  · exact h.2 y hy⟩
theorem ClE.bel {m : Nat} {l : List AV} (h : ClE l) : BelE m l := fun x hx c hc => (h x hx c hc).bel
theorem cl_encC {c : Ct} : Closed (encC c) = True := eq_true (closedC c)
theorem bel_encC {m : Nat} (c : Ct) : Bel m (encC c) = True := eq_true (closedC c).bel
attribute [go_sem] bel_encC
theorem pcallX {C : Cx} {f : FuncId} {args : List AV} {r : AV} (h : CallX C f args .none r .none) (hcl : AllCl args) (hclr : Closed r) : PCall C f args r := pcall_x h (allCl_iff hcl) hclr

/-- The function g with captured values caps, called where all of σ0 is there, answers r and leaves the store as it is. -/
def FnX (C : Cx) (g : FuncId) (caps : List AV) (σ0 : Sto) (args : List AV) (r : AV) : Prop := ∀ σ, Sub σ0 σ → CallX C g (args ++ caps) σ r σ
theorem FnX.here {C : Cx} {g : FuncId} {caps : List AV} {σ0 : Sto} {args : List AV} {r : AV} (h : FnX C g caps σ0 args r) : ∃ fn c, Body C.P g fn c := (h σ0 (.refl _)).here
theorem callK_f {C : Cx} {nt : Nat} {d : Option Nat} {cl : Call} {rs : List RO} {K : Env → Sto → Prop} {env : Env} {σ0 σ : Sto} {f : Operand} {g : FuncId} {caps args : List AV} {r : AV} (h : FnX C g caps σ0 args r) (hs : Sub σ0 σ)
    (hc : cl.callee = .value f) (hf : ev C nt env f = .fn g caps) (ha : leL (cl.args.toList.map (ev C nt env)) args) (hk : wpr C nt rs K (putA env d r) σ) : callK C nt d cl rs K env σ :=
  callK_x (h σ hs) hc hf ha hk
/-- A call in a region that draws its order. -/
theorem callD_x {C : Cx} {nt : Nat} {d : Option Nat} {cl : Call} {rs : List (RO × DF)} {hist : List Sto} {ob : Obl} {K : Env → Sto → Prop} {env : Env} {σ σ1 : Sto} {f : Operand} {g : FuncId} {caps args : List AV} {r : AV}
    (h : CallX C g (args ++ caps) σ r σ1) (hc : cl.callee = .value f) (hf : ev C nt env f = .fn g caps) (ha : leL (cl.args.toList.map (ev C nt env)) args)
    (hk : oblOK σ1 ob ∧ wpD C nt K rs (σ :: hist) (oblDec ob) (putA env d r) σ1) : callD C nt d cl rs hist ob K env σ := by
  obtain ⟨⟨fn, c, hb⟩, h⟩ := h
  exact callR_gen hb (h.le (leL.append ha (leL.refl caps)) (.refl r)) hc hf rfl hk
theorem qcall_of {C : Cx} {ρ : Operand → AV} {cl : Call} {σ : Sto} {f : Operand} {g : FuncId} {caps args : List AV} {r : AV} (h : CallX C g (args ++ caps) σ r σ) (hc : cl.callee = .value f) (hf : ρ f = .fn g caps) (ha : leL (cl.args.toList.map ρ) args) : qcall C ρ (.call cl) r σ := by
  obtain ⟨⟨fn, c, hb⟩, h⟩ := h
  intro o ho
  exact opStep_call (f := f) (as := cl.args) (ts := cl.argTypes) (by rw [ho, ← hc]) hf hb (h.le (leL.append ha (leL.refl caps)) (.refl r))
theorem qcall_of0 {C : Cx} {ρ : Operand → AV} {cl : Call} {σ : Sto} {f : Operand} {g : FuncId} {args : List AV} {r : AV} (h : CallX C g args σ r σ) (hc : cl.callee = .value f) (hf : ρ f = .fn g []) (ha : leL (cl.args.toList.map ρ) args) : qcall C ρ (.call cl) r σ :=
  qcall_of (caps := []) (by rw [List.append_nil]; exact h) hc hf ha
theorem callD_q0 {C : Cx} {nt : Nat} {d : Option Nat} {cl : Call} {bk fw : Nat} {rs : List (RO × DF)} {hist : List Sto} {ob : Obl} {K : Env → Sto → Prop} {env : Env} {σ : Sto} {f : Operand} {g : FuncId} {args : List AV} {r : AV} (h : CallX C g args σ r σ)
    (hc : cl.callee = .value f) (hf : ev C nt env f = .fn g []) (ha : leL (cl.args.toList.map (ev C nt env)) args)
    (hk : allS (qcall C (ev C nt env) (.call cl) r) (hist.take bk) ∧ wpD C nt K rs hist (if fw = 0 then ob else (fw, qcall C (ev C nt env) (.call cl) r) :: ob) (putA env d r) σ) : qcallD C nt d cl bk fw rs hist ob K env σ :=
  ⟨r, qcall_of0 h hc hf ha, hk⟩
theorem callD_q {C : Cx} {nt : Nat} {d : Option Nat} {cl : Call} {bk fw : Nat} {rs : List (RO × DF)} {hist : List Sto} {ob : Obl} {K : Env → Sto → Prop} {env : Env} {σ : Sto} {f : Operand} {g : FuncId} {caps args : List AV} {r : AV} (h : CallX C g (args ++ caps) σ r σ)
    (hc : cl.callee = .value f) (hf : ev C nt env f = .fn g caps) (ha : leL (cl.args.toList.map (ev C nt env)) args)
    (hk : allS (qcall C (ev C nt env) (.call cl) r) (hist.take bk) ∧ wpD C nt K rs hist (if fw = 0 then ob else (fw, qcall C (ev C nt env) (.call cl) r) :: ob) (putA env d r) σ) : qcallD C nt d cl bk fw rs hist ob K env σ :=
  ⟨r, qcall_of h hc hf ha, hk⟩
theorem callD_x0 {C : Cx} {nt : Nat} {d : Option Nat} {cl : Call} {rs : List (RO × DF)} {hist : List Sto} {ob : Obl} {K : Env → Sto → Prop} {env : Env} {σ σ1 : Sto} {f : Operand} {g : FuncId} {args : List AV} {r : AV}
    (h : CallX C g args σ r σ1) (hc : cl.callee = .value f) (hf : ev C nt env f = .fn g []) (ha : leL (cl.args.toList.map (ev C nt env)) args)
    (hk : oblOK σ1 ob ∧ wpD C nt K rs (σ :: hist) (oblDec ob) (putA env d r) σ1) : callD C nt d cl rs hist ob K env σ :=
  callD_x (caps := []) (by rw [List.append_nil]; exact h) hc hf ha hk
section
variable {C : Cx} {ro : Option Nat} {nt : Nat} {Q : Exit → Env → Sto → Prop} {env : Env} {σ : Sto}
theorem WK.blockSeq {id : Nat} {a b : K} (h : WK C ro nt (.seq a b) (fun e => Q (inBlk id e)) env σ) : WK C ro nt (.block id (.seq a b)) Q env σ := WK.block h
theorem WK.blockCond {id : Nat} {c : Operand} {a b : K} (h : WK C ro nt (.cond c a b) (fun e => Q (inBlk id e)) env σ) : WK C ro nt (.block id (.cond c a b)) Q env σ := WK.block h
theorem WK.blockReg {id : Nat} {r : List RO} (h : WK C ro nt (.reg r) (fun e => Q (inBlk id e)) env σ) : WK C ro nt (.block id (.reg r)) Q env σ := WK.block h
theorem WK.condT {c : Operand} {x y : K} (hc : ev C nt env c = .bool true) (h : WK C ro nt x Q env σ) : WK C ro nt (.cond c x y) Q env σ := WK.cond true hc (fun _ => h) (fun h => by cases h)
theorem WK.condF {c : Operand} {x y : K} (hc : ev C nt env c = .bool false) (h : WK C ro nt y Q env σ) : WK C ro nt (.cond c x y) Q env σ := WK.cond false hc (fun h => by cases h) (fun _ => h)
/-- Skip first. -/
theorem gdW_skip {d : Option Nat} {op : Op} {rs : List RO} {K : Env → Sto → Prop} {w : Bool} (b : Bool) (hf : b = (!w) → wpr C nt rs K (putA env d .skp) σ) (ht : b = w → wpr C nt (⟨d, op, none⟩ :: rs) K env σ) : gdW C nt (.bool b) w d op rs K env σ := gdW_split b ht hf
end
/-- A variable in memory, told less exactly. -/
theorem WK.lessBox {C : Cx} {ro : Option Nat} {nt : Nat} {k : K} {Q : Exit → Env → Sto → Prop} {env : Env} {σ : Sto} (id : Nat) {cs : List AV} (ds : List AV) (hs : σ.get id = some (.box cs)) (hle : leL cs ds)
    (h : WK C ro nt k Q env (σ.set id (.box ds))) : WK C ro nt k Q env σ :=
  WK.less (σ1 := σ.set id (.box ds)) (fun t => .refl _) ⟨rfl, fun i o hi => by
    have hi : (if i = id then some (AObj.box ds) else σ.get i) = some o := hi
    split at hi
    · rename_i e; cases hi; exact .inr ⟨cs, ds, by rw [e]; exact hs, rfl, hle⟩
    · exact .inl hi⟩ h
theorem sto_upd {σ : Sto} {P : Sto → Prop} (σ1 : Sto) (h : σ = σ1) (k : P σ1) : P σ := by rw [h]; exact k
theorem le_own' (id : Nat) (xs : List AV) : (AV.own id xs).le (.list false xs) = True := eq_true (le_own id xs)
theorem belE_mapB {A : Type} {m : Nat} (f : A → Bool) (l : List A) : BelE m (l.map fun a => AV.bool (f a)) = True := eq_true (belE_map (fun _ => .bool _) l)
theorem belE_mapI {A : Type} {m : Nat} (k : IntKind) (f : A → Int) (l : List A) : BelE m (l.map fun a => AV.int k (f a)) = True := eq_true (belE_map (fun _ => .int _ _) l)
theorem belE_repl {m n : Nat} {x : AV} (h : BelL m x.cells) : BelE m (List.replicate n x) := fun y hy => by
  rw [List.eq_of_mem_replicate hy]; exact belL_iff.1 h
theorem belE_replB {m n : Nat} {b : Bool} : BelE m (List.replicate n (AV.bool b)) = True := eq_true (belE_repl ⟨.bool _, trivial⟩)
theorem belE_replI {m n : Nat} {k : IntKind} {b : Int} : BelE m (List.replicate n (AV.int k b)) = True := eq_true (belE_repl ⟨.int _ _, trivial⟩)
attribute [go_sem] belE_mapB belE_mapI belE_replB belE_replI
theorem le_listf (f : Bool) (xs : List AV) : (AV.list f xs).le (.list false xs) = True := eq_true (AV.le_list' xs)
attribute [go_sem] le_own' le_listf
theorem one_list {f : Bool} {xs : List AV} : (AV.list f xs).one = true := (rfl)
theorem one_int {k : IntKind} {n : Int} : (AV.int k n).one = true := (rfl)
theorem one_bool {n : Bool} : (AV.bool n).one = true := (rfl)
theorem one_own {f : Nat} {xs : List AV} : (AV.own f xs).one = true := (rfl)
theorem one_str {s : ByteArray} : (AV.str s).one = true := (rfl)
theorem one_ptr {a b : Nat} : (AV.ptr a b).one = true := (rfl)
attribute [go_sem] one_list one_int one_bool one_own one_str one_ptr List.all_cons List.all_nil List.length_cons List.length_nil Bool.and_true Bool.true_and
end Go.Lg
